/- A log that is written over: only what was made behind a mark changes. No condition. -/
import Derived.Test.YtpckkajodpiiaaaU12
import Derived.Test.YtpckkajodpiiaaaTE1
import Derived.Deep.LoopGhost
namespace Go.Proofs.Ytpckkajodpiiaaa
open Go.RowKit
set_option linter.unusedVariables false
set_option linter.unusedSimpArgs false

/-- A row of entries whose cells are numbers and slices of bytes, all of it made behind a mark. -/
structure RowV (M : Nat) (w : World) (A : Option Addr) (n : Nat) (ps : List (Option Addr × Nat × Nat)) : Prop where
  len : ps.length = n
  row : ∀ ad, A = some ad → 0 < n → M ≤ ad.block ∧ Unf w ad.block
  cell : ∀ (j : Nat) p, ps[j]? = some p → ∃ ad, A = some ad ∧ ICell w (ad.add (j * 3)) .u64 ∧ w.cell? ⟨(ad.add (j * 3)).block, (ad.add (j * 3)).off + 2, none⟩ = some (.slice p.1 p.2.1 p.2.2)
  data : ∀ p ∈ ps, ∀ k, k < p.2.1 → ∃ bd, p.1 = some bd ∧ M ≤ bd.block ∧ Unf w bd.block ∧ ICell w (bd.add k) .u8
theorem RowV.grow {M : Nat} {w w' : World} {A : Option Addr} {n : Nat} {ps : List (Option Addr × Nat × Nat)} (h : RowV M w A n ps) (hb : Below w.heap.size w w') : RowV M w' A n ps where
  len := h.len
  row ad ha h0 := ⟨(h.row ad ha h0).1, (h.row ad ha h0).2.grow hb⟩
  cell j p hp := by
    obtain ⟨ad, h1, h2, h3⟩ := h.cell j p hp
    exact ⟨ad, h1, h2.grow hb, (hb.cell (World.block_lt_of_cell? w _ h3)).trans h3⟩
  data p hp k hk := by
    obtain ⟨bd, h1, h2, h3, h4⟩ := h.data p hp k hk
    exact ⟨bd, h1, h2, h3.grow hb, h4.grow hb⟩
theorem RowV.set {M : Nat} {w : World} {A : Option Addr} {n : Nat} {ps : List (Option Addr × Nat × Nat)} (h : RowV M w A n ps) {q : Addr} {k : IntKind} (hq : ICell w q k) (y : Int) : RowV M (w.setCell q (.int k y)) A n ps where
  len := h.len
  row ad ha h0 := ⟨(h.row ad ha h0).1, (h.row ad ha h0).2.set q _⟩
  cell j p hp := by
    obtain ⟨ad, h1, h2, h3⟩ := h.cell j p hp
    exact ⟨ad, h1, h2.set hq y, cell_set h3 hq y⟩
  data p hp k hk := by
    obtain ⟨bd, h1, h2, h3, h4⟩ := h.data p hp k hk
    exact ⟨bd, h1, h2, h3.set q _, h4.set hq y⟩

set_option maxHeartbeats 1600000 in
theorem over_any (M : Nat) (A : Option Addr) (n c : Nat) (ps : List (Option Addr × Nat × Nat)) (i t : Int) (w : World) (hv : RowV M w A n ps) (hn : n ≤ 1000000000) (hpl : ∀ p ∈ ps, p.2.1 ≤ 1000000000000) (hM : M ≤ w.heap.size) :
    Calls Try.prog 21 #[logV i t A n c] w fun e w' => e = .returned (.tuple #[]) ∧ Shp M w w' := by
  have HPL := Lib.hid hv.len
  unfold logV
  go_enter Try.func21, Try.ntmps21
  have q0 := Blk.new w 27 #[.int .u64 i, .int .u64 t, .slice A n c]
  have c0 := q0.cell 2
  simp at c0
  have hB0 := (Shp.refl M w).grow hM ((Below.refl w.heap.size w).alloc (Nat.le_refl _) (.cells #[.int .u64 i, .int .u64 t, .slice A n c] 27))
  have hlt0 : ∀ ad, A = some ad → 0 < n → w.heap.size ≠ ad.block := fun ad ha h0 => by have := (hv.row ad ha h0).2.lt_; omega
  have hlt1 : ∀ p ∈ ps, ∀ bd, p.1 = some bd → 0 < p.2.1 → w.heap.size ≠ bd.block := fun p hp bd hb h0 => by
    obtain ⟨bd', h1, _, h2, _⟩ := hv.data p hp 0 h0
    rw [hb] at h1
    injection h1 with h1
    subst h1
    have := h2.lt_
    omega
  have hv1 := hv.grow ((Below.refl w.heap.size w).alloc (Nat.le_refl _) (.cells #[.int .u64 i, .int .u64 t, .slice A n c] 27))
  obtain ⟨g0, hg0⟩ : ∃ g, g = w.heap.size := ⟨_, rfl⟩
  go_wp2
  go_loopw [7] (fun v wr => ∃ (k : Nat), k ≤ n ∧ v = .int .i64 k ∧ RowV M wr A n ps ∧ Blk wr w.heap.size 27 #[.int .u64 i, .int .u64 t, .slice A n c] ∧ Shp M w wr) (fun v _ => n - (intOf v).toNat)
  case atStart => exact ⟨0, by omega, rfl, hv1, q0, hB0⟩
  case round =>
    obtain ⟨k, hk, rfl, hv, q, hB⟩ := hrel
    have c1 := q.cell 2
    simp at c1
    by_cases hlt : k < n
    · obtain ⟨p, hp⟩ : ∃ p, ps[k]? = some p := ⟨ps[k]'(by have := HPL.out; omega), List.getElem?_eq_getElem _⟩
      obtain ⟨ad, rfl, hT, hD⟩ := hv.cell k p hp
      have hpn := hpl p (List.mem_of_getElem? hp)
      have hpm := List.mem_of_getElem? hp
      have f0 := (hv.row ad rfl (by omega)).1
      have g0 := hlt0 ad rfl (by omega)
      go_wp2
      go_loopw [17] (fun v wr => ∃ (k2 : Nat), k2 ≤ p.2.1 ∧ v = .int .i64 k2 ∧ RowV M wr (some ad) n ps ∧ Blk wr w.heap.size 27 #[.int .u64 i, .int .u64 t, .slice (some ad) n c] ∧ Shp M w wr) (fun v _ => p.2.1 - (intOf v).toNat)
      case atStart => exact ⟨0, by omega, rfl, hv, q, hB⟩
      case round =>
        clear hT hD hv q hB c1
        obtain ⟨k2, hk2, rfl, hv, q, hB⟩ := hrel
        have c1 := q.cell 2
        simp at c1
        obtain ⟨ad', e1, hT, hD⟩ := hv.cell k p hp
        injection e1 with e1
        subst e1
        by_cases hlt2 : k2 < p.2.1
        · obtain ⟨bd, hbd, hM2, hu, x, hx⟩ := hv.data p hpm k2 hlt2
          have hne := hlt1 p hpm bd hbd (by omega)
          have hf : wr.frozen? (bd.add k2) = false := Unf.frozen (by rw [addr_block]; exact hu)
          have hv2 := hv.set ⟨x, hx⟩
          have q2 := fun u => q.far (p := bd.add k2) (by rw [addr_block]; exact hne) u
          have hB2 := hB.set (q := bd.add k2) (by rw [addr_block]; exact hM2) ⟨x, hx⟩
          rw [hbd] at hD
          clear hv q hB hu hT
          go_wp2
          go_roundw
          case rel => exact ⟨k2 + 1, by omega, by go_num, hv2 _, q2 _, hB2 _⟩
          case measure => simp [intOf]; omega
        · obtain rfl : k2 = p.2.1 := by omega
          obtain ⟨x, hx⟩ := hT
          have hu := (hv.row ad rfl (by omega)).2
          have hf : wr.frozen? (ad.add (k * 3)) = false := Unf.frozen (by rw [addr_block]; exact hu)
          have hv2 := hv.set (q := ad.add (k * 3)) ⟨x, hx⟩
          have q2 := fun u => q.far (p := ad.add (k * 3)) (by rw [addr_block]; exact g0) u
          have hB2 := hB.set (q := ad.add (k * 3)) (by rw [addr_block]; exact f0) ⟨x, hx⟩
          clear hv q hB hu
          go_wp2
          go_roundw
          case rel => exact ⟨k + 1, by omega, by go_num, hv2 _, q2 _, hB2 _⟩
          case measure => simp [intOf]; omega
    · obtain rfl : k = n := by omega
      go_wp2
      exact bodyPost_end (v := .tuple #[]) (by simp [results, Try.f21]) rfl ⟨rfl, hB⟩
theorem bytesV {C : Cx} : ∀ {l : List Int} {css : List (List Value)}, DnLL C (l.map byC) css → ∀ k, k < l.length → ∃ x, css.flatten[k]? = some (.int .u8 x)
  | [], css, h, k, hk => by simp at hk
  | x :: l, css, h, k, hk => by
    simp only [List.map_cons, DnLL] at h
    obtain ⟨u, us, rfl, h1, h2⟩ := h
    simp only [byC, DnL, Dn] at h1
    obtain ⟨v, vs, rfl, h3, rfl⟩ := h1
    subst h3
    cases k with
    | zero => exact ⟨x, rfl⟩
    | succ k => simpa using bytesV h2 k (by simpa using hk)
/-- What an entry's cells are. -/
theorem entV {C : Cx} {e : Ent} {cs : List Value} (h : DnL C (entC true e) cs) : ∃ (p : Option Addr × Nat × Nat), cs = [.int .u64 e.T, .int .i64 e.K, .slice p.1 p.2.1 p.2.2] ∧ p.2.1 = e.D.length ∧ ∀ k, k < p.2.1 → ∃ bd, p.1 = some bd ∧ C.B ≤ bd.block ∧ Unf C.w bd.block ∧ ICell C.w (bd.add k) .u8 := by
  simp only [entC, DnL, Dn] at h
  obtain ⟨u1, us1, rfl, rfl, u2, us2, rfl, rfl, u3, us3, rfl, ⟨A, c, css, sz, rfl, h2, h3, h4, h5, h6, h7⟩, rfl⟩ := h
  refine ⟨(A, (e.D.map byC).length, c), rfl, by simp, fun k hk => ?_⟩
  have hk' : k < e.D.length := by simpa using hk
  cases A with
  | none =>
    have := h4 rfl
    rw [List.map_eq_nil_iff] at this
    rw [this] at hk'
    simp at hk'
  | some bd =>
    obtain ⟨h8, h9⟩ := h7 bd rfl
    obtain ⟨_, _, h10⟩ := h8 (by intro h0; rw [List.map_eq_nil_iff] at h0; rw [h0] at hk'; simp at hk')
    obtain ⟨x, hx⟩ := bytesV h6 k hk'
    exact ⟨bd, rfl, (h10 trivial).1, (h10 trivial).2, x, h9 k _ hx⟩
theorem entsV {C : Cx} : ∀ {es : List Ent} {css : List (List Value)}, DnLL C (es.map (entC true)) css → ∃ ps : List (Option Addr × Nat × Nat), ps.length = es.length ∧ (∀ p ∈ ps, ∃ e ∈ es, p.2.1 = e.D.length) ∧
    (∀ p ∈ ps, ∀ k, k < p.2.1 → ∃ bd, p.1 = some bd ∧ C.B ≤ bd.block ∧ Unf C.w bd.block ∧ ICell C.w (bd.add k) .u8) ∧
    ∀ (j : Nat) p, ps[j]? = some p → (∃ x, css.flatten[j * 3]? = some (.int .u64 x)) ∧ css.flatten[j * 3 + 2]? = some (.slice p.1 p.2.1 p.2.2)
  | [], css, h => ⟨[], rfl, by simp, by simp, by simp⟩
  | e :: es, css, h => by
    simp only [List.map_cons, DnLL] at h
    obtain ⟨u, us, rfl, h1, h2⟩ := h
    obtain ⟨p, rfl, h3, h4⟩ := entV h1
    obtain ⟨ps, g1, g2, g3, g4⟩ := entsV h2
    refine ⟨p :: ps, by simp [g1], ?_, ?_, ?_⟩
    · intro q hq
      rcases List.mem_cons.1 hq with rfl | hq
      · exact ⟨e, by simp, h3⟩
      · obtain ⟨e', he, h5⟩ := g2 q hq
        exact ⟨e', by simp [he], h5⟩
    · intro q hq
      rcases List.mem_cons.1 hq with rfl | hq
      · exact h4
      · exact g3 q hq
    · intro j q hq
      cases j with
      | zero =>
        simp only [List.getElem?_cons_zero, Option.some.injEq] at hq
        subst hq
        exact ⟨⟨e.T, rfl⟩, rfl⟩
      | succ j =>
        simp only [List.getElem?_cons_succ] at hq
        obtain ⟨⟨x, hx⟩, hy⟩ := g4 j q hq
        refine ⟨⟨x, ?_⟩, ?_⟩
        · rw [show (j + 1) * 3 = j * 3 + 3 by omega]; simpa using hx
        · rw [show (j + 1) * 3 + 2 = (j * 3 + 2) + 3 by omega]; simpa using hy
theorem over_S {i t : Int} {es : List Ent} (hn : es.length ≤ 1000000000) (hd : ∀ e ∈ es, e.D.length ≤ 1000000000000) : SpB Try.prog 21 [logT i t (.sl true (es.map (entC true)))] := ⟨by kernel_rfl, fun C vals hB hh => by
  simp only [logT, DnL, Dn] at hh
  obtain ⟨u, us, rfl, ⟨vs, rfl, u1, us1, rfl, rfl, u2, us2, rfl, rfl, u3, us3, rfl, ⟨A, c, css, sz, rfl, h2, h3, h4, h5, h6, h7⟩, rfl⟩, rfl⟩ := hh
  obtain ⟨ps, g1, g2, g3, g4⟩ := entsV h6
  have hl : (es.map (entC true)).length = es.length := by simp
  have hp : ∀ ad, A = some ad → 0 < es.length → C.B ≤ ad.block ∧ Unf C.w ad.block := fun ad ha h0 => ((h7 ad ha).1 (by intro hz; rw [List.map_eq_nil_iff] at hz; rw [hz] at h0; simp at h0)).2.2 trivial
  have hv : RowV C.B C.w A (es.map (entC true)).length ps := by
    rw [hl]
    refine ⟨g1, hp, fun j p hj => ?_, g3⟩
    obtain ⟨⟨x, hx⟩, hy⟩ := g4 j p hj
    cases A with
    | none =>
      have := h4 rfl
      rw [List.map_eq_nil_iff] at this
      rw [this] at g1
      have := (List.getElem?_eq_some_iff.1 hj).1
      simp at g1
      rw [g1] at this
      simp at this
    | some ad =>
      refine ⟨ad, rfl, ⟨x, (h7 ad rfl).2 _ _ hx⟩, ?_⟩
      have e1 : (⟨(ad.add (j * 3)).block, (ad.add (j * 3)).off + 2, none⟩ : Addr) = ad.add (j * 3 + 2) := by
        unfold Addr.add
        by_cases h0 : j * 3 = 0
        · simp [h0]
        · simp [h0, Nat.add_assoc]
      rw [e1]
      exact (h7 ad rfl).2 _ _ hy
  exact over_any C.B A _ c ps i t C.w hv (by rw [hl]; exact hn) (fun p hpm => by obtain ⟨e, he, h5⟩ := g2 p hpm; rw [h5]; exact hd e he) hB⟩
theorem bl_bytes {C C' : Cx} : ∀ {l : List Int} {css : List (List Value)}, DnLL C (l.map byC) css → ∀ {css2 : List (List Value)}, css2.length = css.length → (∀ (k : Nat) (v : Value), css.flatten[k]? = some v → css2.flatten[k]? = some v ∨ ∃ x, css2.flatten[k]? = some (.int .u8 x)) → (∀ x ∈ css2, x.length = 1) → ∃ l2 : List Int, l2.length = l.length ∧ DnLL C' (l2.map byC) css2
  | [], css, h, css2, hl, hc, h1 => by
    simp only [List.map_nil, DnLL] at h
    subst h
    exact ⟨[], rfl, by simp only [List.map_nil, DnLL]; exact List.eq_nil_of_length_eq_zero hl⟩
  | x :: l, css, h, [], hl, hc, h1 => by
    simp only [List.map_cons, DnLL] at h
    obtain ⟨u, us, rfl, _, _⟩ := h
    simp at hl
  | x :: l, css, h, y :: css2, hl, hc, h1 => by
    simp only [List.map_cons, DnLL] at h
    obtain ⟨u, us, rfl, h2, h3⟩ := h
    simp only [byC, DnL, Dn] at h2
    obtain ⟨v, vs, rfl, h4, rfl⟩ := h2
    subst h4
    have hy := h1 y (by simp)
    obtain ⟨z, rfl⟩ : ∃ z, y = [z] := by
      cases y with
      | nil => simp at hy
      | cons z r => cases r with
        | nil => exact ⟨z, rfl⟩
        | cons _ _ => simp at hy
    have h5 := hc 0 _ rfl
    obtain ⟨x2, rfl⟩ : ∃ x2, z = .int .u8 x2 := by
      rcases h5 with h5 | ⟨x2, h5⟩
      · exact ⟨x, by simpa using h5⟩
      · exact ⟨x2, by simpa using h5⟩
    obtain ⟨l2, h6, h7⟩ := bl_bytes (C' := C') h3 (css2 := css2) (by simpa using hl) (fun k v hk => by simpa using hc (k + 1) v (by simpa using hk)) (fun w hw => h1 w (by simp [hw]))
    exact ⟨x2 :: l2, by simp [h6], by simp only [List.map_cons, DnLL]; exact ⟨_, _, rfl, by simp [byC, DnL, Dn], h7⟩⟩
/-- The cells of a row behind a call that writes numbers over numbers. -/
theorem bl_cells {M : Nat} {w w' : World} (hs : Shp M w w') {ad : Addr} : ∀ (cs : List Value), (∀ (j : Nat) (x : Value), cs[j]? = some x → w.cell? (ad.add j) = some x) → ∃ cs2 : List Value, cs2.length = cs.length ∧ (∀ (j : Nat) (x : Value), cs2[j]? = some x → w'.cell? (ad.add j) = some x) ∧ ∀ (j : Nat) (x : Value), cs[j]? = some x → cs2[j]? = some x ∨ ∃ k y z, x = .int k y ∧ cs2[j]? = some (.int k z) := by
  intro cs h
  refine ⟨(List.range cs.length).map fun j => (w'.cell? (ad.add j)).getD .nilFunc, by simp, fun j x hx => ?_, fun j x hx => ?_⟩
  · rw [List.getElem?_map] at hx
    cases hr : (List.range cs.length)[j]? with
    | none => rw [hr] at hx; cases hx
    | some k =>
      obtain ⟨hk, rfl⟩ := List.getElem?_eq_some_iff.1 hr
      rw [hr] at hx
      simp only [Option.map_some, Option.some.injEq, List.getElem_range] at hx
      have hj : j < cs.length := by simpa using hk
      rcases hs.cell _ _ (h j cs[j] (List.getElem?_eq_getElem hj)) with h4 | ⟨k, a, b, h4, h5⟩
      · rw [h4] at hx; rw [h4, ← hx]; rfl
      · rw [h5] at hx; rw [h5, ← hx]; rfl
  · have hj := (List.getElem?_eq_some_iff.1 hx).1
    rw [List.getElem?_map, List.getElem?_range hj]
    rcases hs.cell _ _ (h j x hx) with h4 | ⟨k, a, b, h4, h5⟩
    · left; simp [h4]
    · right; exact ⟨k, a, b, h4, by simp [h5]⟩
theorem Dn.sl_e {C : Cx} {b : Bool} {els : List (List TV)} {u : Value} (h : Dn C (.sl b els) u) : ∃ (A : Option Addr) (c : Nat) (css : List (List Value)) (sz : Nat), u = .slice A els.length c ∧ els.length ≤ c ∧ c ≤ maxLen ∧ (A = none → els = []) ∧ (∀ x ∈ css, x.length = sz) ∧ DnLL C els css ∧
    ∀ ad, A = some ad → (els ≠ [] → C.S ad.block ∧ ad.block < C.w.heap.size ∧ (b = true → C.B ≤ ad.block ∧ Unf C.w ad.block)) ∧ ∀ (j : Nat) (x : Value), css.flatten[j]? = some x → C.w.cell? (ad.add j) = some x := by
  simp only [Dn] at h; exact h
theorem Dn.sl_m {C : Cx} {b : Bool} {els : List (List TV)} {A : Option Addr} {c : Nat} {css : List (List Value)} {sz : Nat} (h1 : els.length ≤ c) (h2 : c ≤ maxLen) (h3 : A = none → els = []) (h4 : ∀ x ∈ css, x.length = sz) (h5 : DnLL C els css)
    (h6 : ∀ ad, A = some ad → (els ≠ [] → C.S ad.block ∧ ad.block < C.w.heap.size ∧ (b = true → C.B ≤ ad.block ∧ Unf C.w ad.block)) ∧ ∀ (j : Nat) (x : Value), css.flatten[j]? = some x → C.w.cell? (ad.add j) = some x) : Dn C (.sl b els) (.slice A els.length c) := by
  simp only [Dn]; exact ⟨A, c, css, sz, rfl, h1, h2, h3, h4, h5, h6⟩
theorem sing_flat : ∀ {cs : List Value}, (cs.map fun x => [x]).flatten = cs
  | [] => rfl
  | x :: cs => by simp [sing_flat (cs := cs)]
theorem bl_sl {C C' : Cx} (hs : Shp C.B C.w C'.w) (hB : C'.B = C.B) (hS : ∀ k, C'.S k) {ad : Addr} (h : C.S ad.block ∧ ad.block < C.w.heap.size ∧ (true = true → C.B ≤ ad.block ∧ Unf C.w ad.block)) : C'.S ad.block ∧ ad.block < C'.w.heap.size ∧ (true = true → C'.B ≤ ad.block ∧ Unf C'.w ad.block) :=
  ⟨hS _, Nat.lt_of_lt_of_le h.2.1 hs.below.size, fun _ => ⟨by rw [hB]; exact (h.2.2 rfl).1, hs.unf _ (h.2.2 rfl).2⟩⟩
theorem bl_data {C C' : Cx} (hs : Shp C.B C.w C'.w) (hB : C'.B = C.B) (hS : ∀ k, C'.S k) {l : List Int} {u : Value} (h : Dn C (.sl true (l.map byC)) u) : ∃ l2 : List Int, l2.length = l.length ∧ Dn C' (.sl true (l2.map byC)) u := by
  obtain ⟨A, c, css, sz, rfl, h2, h3, h4, h5, h6, h7⟩ := h.sl_e
  have hcl := h6.len
  cases A with
  | none =>
    have := h4 rfl
    rw [List.map_eq_nil_iff] at this
    subst this
    exact ⟨[], rfl, Dn.sl_m (css := []) (sz := 0) h2 h3 (fun _ => rfl) (by simp) (by simp [DnLL]) (fun ad ha => by cases ha)⟩
  | some ad =>
    obtain ⟨h8, h9⟩ := h7 ad rfl
    obtain ⟨cs2, g1, g2, g3⟩ := bl_cells hs (ad := ad) css.flatten h9
    have hall : ∀ (k : Nat) (v : Value), css.flatten[k]? = some v → (cs2.map fun x => [x]).flatten[k]? = some v ∨ ∃ x, (cs2.map fun x => [x]).flatten[k]? = some (.int .u8 x) := by
      intro k v hv
      rw [sing_flat]
      rcases g3 k v hv with h1 | ⟨kk, y, z, h1, h2⟩
      · exact .inl h1
      · have hk : k < l.length := by
          have h3 := (List.getElem?_eq_some_iff.1 hv).1
          have : css.flatten.length = l.length := by
            have key : ∀ (l : List Int) (css : List (List Value)), DnLL C (l.map byC) css → css.flatten.length = l.length := by
              intro l
              induction l with
              | nil => intro css h; simp only [List.map_nil, DnLL] at h; subst h; rfl
              | cons x l ih =>
                intro css h
                simp only [List.map_cons, DnLL] at h
                obtain ⟨u, us, rfl, h2, h3⟩ := h
                have := h2.len
                have := ih us h3
                simp [byC] at *
                omega
            exact key l css h6
          omega
        obtain ⟨x, hx⟩ := bytesV h6 k hk
        rw [hv] at hx
        rw [h1] at hx
        injection hx with hx
        injection hx with hx hx2
        subst hx
        exact .inr ⟨z, h2⟩
    have hfl : css.flatten.length = css.length := by
      have key : ∀ (l : List Int) (css : List (List Value)), DnLL C (l.map byC) css → css.flatten.length = css.length := by
        intro l
        induction l with
        | nil => intro css h; simp only [List.map_nil, DnLL] at h; subst h; rfl
        | cons x l ih =>
          intro css h
          simp only [List.map_cons, DnLL] at h
          obtain ⟨u, us, rfl, h2, h3⟩ := h
          have := h2.len
          have := ih us h3
          simp [byC] at *
          omega
      exact key l css h6
    obtain ⟨l2, g4, g5⟩ := bl_bytes (C' := C') h6 (css2 := cs2.map fun x => [x]) (by simp [g1, hfl]) hall (fun x hx => by obtain ⟨y, _, rfl⟩ := List.mem_map.1 hx; rfl)
    refine ⟨l2, g4, ?_⟩
    have e1 : (l.map byC).length = (l2.map byC).length := by simp [g4]
    rw [e1] at h2 ⊢
    refine Dn.sl_m (sz := 1) h2 h3 (fun h => by cases h) (fun x hx => by obtain ⟨y, _, rfl⟩ := List.mem_map.1 hx; rfl) g5 (fun ad' ha => ?_)
    injection ha with ha
    subst ha
    refine ⟨fun hne => bl_sl hs hB hS (h8 fun h0 => hne ?_), fun j x hx => g2 j x (by rw [sing_flat] at hx; exact hx)⟩
    rw [List.map_eq_nil_iff] at h0 ⊢
    subst h0
    exact List.eq_nil_of_length_eq_zero g4
end Go.Proofs.Ytpckkajodpiiaaa
