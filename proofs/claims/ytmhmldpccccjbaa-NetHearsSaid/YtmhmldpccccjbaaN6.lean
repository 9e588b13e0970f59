/- Who hears whom, by the document: the walk. No condition. -/
import Derived.Test.YtmhmldpccccjbaaN4
import Derived.Test.YtmhmldpccccjbaaU17
import Derived.Test.YtmhmldpccccjbaaNB
import Derived.Deep.LoopGhost
import Derived.Test.YtmhmldpccccjbaaU17
namespace Go.Proofs.Ytmhmldpccccjbaa
open Go.RowKit
set_option linter.unusedVariables false
set_option linter.unusedSimpArgs false

theorem net0_ok : net0.Ok := ⟨by simp [net0], by simp [net0], by simp [net0, I64], by simp [net0], by simp [net0]⟩
theorem right_ok {n : NetA} (h : Right n) : n.Ok := by
  refine ⟨fun x hx => ?_, by have := h.s.n; omega, ?_, fun x hx => ?_, by have := h.d.n; omega⟩
  · have h1 := h.s.w x hx
    have h2 := pkB_iff.1 (h.p x hx)
    unfold inWay at h1
    exact ⟨⟨by omega, by omega⟩, ⟨by omega, by omega⟩, ⟨by omega, by omega⟩, by omega⟩
  · have := h.l
    exact ⟨by omega, by omega⟩
  · have h2 := pkB_iff.1 (h.d.w x hx)
    exact ⟨⟨by omega, by omega⟩, by omega, by omega⟩
def insD (d : List (Int × Int)) (x : Int × Int) : List (Int × Int) := d.take (posD d (dk x)) ++ [x] ++ d.drop (posD d (dk x))
def delD (d : List (Int × Int)) (x : Int × Int) : List (Int × Int) := d.take (posD d (dk x)) ++ d.drop (posD d (dk x) + 1)
theorem wayD_of {d : List (Int × Int)} (hw : ∀ y ∈ d, pkB y.1 y.2 0 = true) (ho : d.Pairwise fun x y => dk x < dk y) : WayD d := by
  refine ⟨?_, hw, ho⟩
  have := rise_len (l := d.map dk) (lo := 0) (hi := 100) (List.pairwise_map.2 ho) (fun x hx => by
    obtain ⟨y, hy, rfl⟩ := List.mem_map.1 hx
    have := pkB_iff.1 (hw y hy)
    unfold dk; omega) (by omega)
  simp at this
  omega
theorem posD_lt' {s : List (Int × Int)} {x : Int} : ∀ {m : Nat} {y : Int × Int}, m < posD s x → s[m]? = some y → dk y < x := by
  induction s with
  | nil => intro m y h hy; simp at hy
  | cons a s ih =>
    intro m y h hy
    unfold posD at h
    by_cases ha : dk a < x
    · rw [List.takeWhile_cons_of_pos (by simpa using ha), List.length_cons] at h
      cases m with
      | zero => simp at hy; subst hy; exact ha
      | succ m => exact ih (m := m) (by unfold posD; omega) (by simpa using hy)
    · rw [List.takeWhile_cons_of_neg (by simpa using ha)] at h
      simp at h
theorem posD_ge' {s : List (Int × Int)} {x : Int} (ho : s.Pairwise fun x y => dk x < dk y) : ∀ {m : Nat} {y : Int × Int}, posD s x ≤ m → s[m]? = some y → x ≤ dk y := by
  induction s with
  | nil => intro m y h hy; simp at hy
  | cons a s ih =>
    intro m y h hy
    unfold posD at h
    by_cases ha : dk a < x
    · rw [List.takeWhile_cons_of_pos (by simpa using ha), List.length_cons] at h
      cases m with
      | zero => omega
      | succ m => exact ih (List.pairwise_cons.1 ho).2 (m := m) (by unfold posD; omega) (by simpa using hy)
    · cases m with
      | zero => simp at hy; subst hy; omega
      | succ m =>
        have := (List.pairwise_cons.1 ho).1 y (List.mem_of_getElem? (by simpa using hy))
        omega
theorem ge_gt {d : List (Int × Int)} {x : Int × Int} (hd : WayD d) (hx : pkB x.1 x.2 0 = true) (hn : x ∉ d) {m : Nat} {y : Int × Int} (hm : posD d (dk x) ≤ m) (hy : d[m]? = some y) : dk x < dk y := by
  have h1 := posD_ge' hd.o hm hy
  have hyd := List.mem_of_getElem? hy
  have h2 : dk y ≠ dk x := fun e => hn ((ordN_dk (hd.w y hyd) hx).2.2.2 e ▸ hyd)
  omega
theorem insD_way {d : List (Int × Int)} {x : Int × Int} (hd : WayD d) (hx : pkB x.1 x.2 0 = true) (hn : x ∉ d) : WayD (insD d x) := by
  unfold insD
  refine wayD_of (fun y hy => ?_) ?_
  · simp only [List.mem_append, List.mem_singleton] at hy
    rcases hy with (hy | rfl) | hy
    · exact hd.w y (List.mem_of_mem_take hy)
    · exact hx
    · exact hd.w y (List.mem_of_mem_drop hy)
  · have hz : ∀ z ∈ d.drop (posD d (dk x)), dk x < dk z := fun z hz => by
      obtain ⟨m, hm, rfl⟩ := List.getElem_of_mem hz
      rw [List.length_drop] at hm
      rw [List.getElem_drop]
      exact ge_gt hd hx hn (m := posD d (dk x) + m) (by omega) (List.getElem?_eq_getElem (by omega))
    have hy : ∀ y ∈ d.take (posD d (dk x)), dk y < dk x := fun y hy => by
      obtain ⟨m, hm, rfl⟩ := List.getElem_of_mem hy
      rw [List.length_take] at hm
      rw [List.getElem_take]
      exact posD_lt' (s := d) (m := m) (by omega) (List.getElem?_eq_getElem (by omega))
    rw [List.pairwise_append, List.pairwise_append]
    refine ⟨⟨hd.o.sublist (List.take_sublist _ _), by simp, fun y hy' z hz' => ?_⟩, hd.o.sublist (List.drop_sublist _ _), fun y hy' z hz' => ?_⟩
    · simp only [List.mem_singleton] at hz'
      subst hz'; exact hy y hy'
    · have h2 := hz z hz'
      rcases List.mem_append.1 hy' with hy' | hy'
      · have := hy y hy'; omega
      · simp only [List.mem_singleton] at hy'
        subst hy'; exact h2
theorem delD_way {d : List (Int × Int)} {x : Int × Int} (hd : WayD d) : WayD (delD d x) := by
  have hs : (delD d x).Sublist d := by
    unfold delD
    have h1 : (d.drop (posD d (dk x) + 1)).Sublist (d.drop (posD d (dk x))) := by
      rw [Nat.add_comm, ← List.drop_drop]
      simpa using (List.drop_sublist 1 (d.drop (posD d (dk x))))
    have := (List.Sublist.refl (d.take (posD d (dk x)))).append h1
    rwa [List.take_append_drop] at this
  exact wayD_of (fun y hy => hd.w y (hs.subset hy)) (hd.o.sublist hs)
theorem insD_pos {d : List (Int × Int)} {x : Int × Int} (hd : WayD d) (hx : pkB x.1 x.2 0 = true) (hn : x ∉ d) : posD (insD d x) (dk x) = posD d (dk x) := by
  have hle := posD_le d (dk x)
  refine posD_is (by simp [insD]; omega) (fun m y hm hy => ?_) (fun m y hm hy => ?_)
  · unfold insD at hy
    rw [List.append_assoc, List.getElem?_append_left (by simp; omega), List.getElem?_take_of_lt hm] at hy
    exact posD_lt' hm hy
  · unfold insD at hy
    rw [List.append_assoc, List.getElem?_append_right (by simp; omega)] at hy
    simp only [List.length_take, Nat.min_eq_left hle] at hy
    cases hk : m - posD d (dk x) with
    | zero => rw [hk] at hy; simp at hy; subst hy; exact Int.le_refl _
    | succ k =>
      rw [hk] at hy
      simp only [List.singleton_append, List.getElem?_cons_succ, List.getElem?_drop] at hy
      exact Int.le_of_lt (ge_gt hd hx hn (by omega) hy)
theorem insD_mem {d : List (Int × Int)} {x y : Int × Int} : y ∈ insD d x ↔ y = x ∨ y ∈ d := by
  unfold insD
  conv => rhs; rw [← List.take_append_drop (posD d (dk x)) d]
  simp only [List.mem_append, List.mem_singleton]
  constructor
  · rintro ((h | h) | h)
    · exact .inr (.inl h)
    · exact .inl h
    · exact .inr (.inr h)
  · rintro (h | h | h)
    · exact .inl (.inr h)
    · exact .inl (.inl h)
    · exact .inr h
theorem insD_del {d : List (Int × Int)} {x : Int × Int} (hd : WayD d) (hx : pkB x.1 x.2 0 = true) (hn : x ∉ d) : delD (insD d x) x = d := by
  have hle := posD_le d (dk x)
  unfold delD
  rw [insD_pos hd hx hn]
  unfold insD
  rw [List.append_assoc, List.take_append_of_le_length (by simp; omega), List.take_of_length_le (by rw [List.length_take]; omega), List.drop_append, List.drop_eq_nil_of_le (by rw [List.length_take]; omega), List.length_take, Nat.min_eq_left hle, show posD d (dk x) + 1 - posD d (dk x) = 1 by omega]
  simp
theorem delD_split {d : List (Int × Int)} {x : Int × Int} (hd : WayD d) (hm : x ∈ d) : d = d.take (posD d (dk x)) ++ [x] ++ d.drop (posD d (dk x) + 1) := by
  have h1 := posD_at hd hm
  obtain ⟨hl, he⟩ := List.getElem?_eq_some_iff.1 h1
  conv => lhs; rw [← List.take_append_drop (posD d (dk x)) d, List.drop_eq_getElem_cons hl, he]
  simp
theorem delD_mem {d : List (Int × Int)} {x y : Int × Int} (hd : WayD d) (hm : x ∈ d) : y ∈ delD d x ↔ y ≠ x ∧ y ∈ d := by
  have h0 := delD_split hd hm
  have hnd : (d.take (posD d (dk x)) ++ [x] ++ d.drop (posD d (dk x) + 1)).Pairwise fun x y => dk x < dk y := h0 ▸ hd.o
  have hne : ∀ y, y ∈ delD d x → y ≠ x := fun y hy e => by
    subst e
    unfold delD at hy
    rw [List.append_assoc, List.pairwise_append, List.pairwise_append] at hnd
    obtain ⟨_, ⟨_, _, h2⟩, h1⟩ := hnd
    rcases List.mem_append.1 hy with hy | hy
    · have := h1 y hy y (by simp); omega
    · have := h2 y (by simp) y hy; omega
  constructor
  · intro hy
    refine ⟨hne y hy, ?_⟩
    rw [h0]
    unfold delD at hy
    simp only [List.mem_append, List.mem_singleton] at hy ⊢
    exact hy.elim (fun h => .inl (.inl h)) .inr
  · rintro ⟨h1, h2⟩
    rw [h0] at h2
    unfold delD
    simp only [List.mem_append, List.mem_singleton] at h2 ⊢
    rcases h2 with (h2 | h2) | h2
    · exact .inl h2
    · exact absurd h2 h1
    · exact .inr h2
theorem delD_pos {d : List (Int × Int)} {x : Int × Int} (hd : WayD d) (hm : x ∈ d) : posD (delD d x) (dk x) = posD d (dk x) := by
  have hlt := posD_lt hd hm
  have hat := posD_at hd hm
  obtain ⟨hl0, he0⟩ := List.getElem?_eq_some_iff.1 hat
  refine posD_is (by simp [delD]; omega) (fun m y hm hy => ?_) (fun m y hm hy => ?_)
  · unfold delD at hy
    rw [List.getElem?_append_left (by simp; omega), List.getElem?_take_of_lt hm] at hy
    exact posD_lt' hm hy
  · unfold delD at hy
    rw [List.getElem?_append_right (by simp; omega)] at hy
    simp only [List.length_take, Nat.min_eq_left (Nat.le_of_lt hlt), List.getElem?_drop] at hy
    exact posD_ge' hd.o (by omega) hy
theorem delD_ins {d : List (Int × Int)} {x : Int × Int} (hd : WayD d) (hm : x ∈ d) : insD (delD d x) x = d := by
  have hlt := posD_lt hd hm
  unfold insD
  rw [delD_pos hd hm]
  unfold delD
  rw [List.take_append_of_le_length (by simp; omega), List.take_of_length_le (by rw [List.length_take]; omega), List.drop_append_of_le_length (by simp; omega), List.drop_eq_nil_of_le (by simp; omega)]
  exact (delD_split hd hm).symm
theorem part_eq {n : NetA} {f t : Int} (h : rightB n = true) (hp : pkB f t 0 = true) : partN n f t = if (f, t) ∈ n.d then (net0, 5) else (⟨n.s, n.l, insD n.d (f, t)⟩, 0) := by
  unfold partN
  rw [if_pos h, if_pos hp]
  rfl
theorem mend_eq {n : NetA} {f t : Int} (h : rightB n = true) (hp : pkB f t 0 = true) : mendN n f t = if (f, t) ∈ n.d then (⟨n.s, n.l, delD n.d (f, t)⟩, 0) else (net0, 4) := by
  unfold mendN
  rw [if_pos h, if_pos hp]
  rfl
theorem right_ins {n : NetA} {x : Int × Int} (h : Right n) (hp : pkB x.1 x.2 0 = true) (hn : x ∉ n.d) : Right ⟨n.s, n.l, insD n.d x⟩ := ⟨h.l, h.s, h.p, insD_way h.d hp hn⟩
theorem right_del {n : NetA} {x : Int × Int} (h : Right n) : Right ⟨n.s, n.l, delD n.d x⟩ := ⟨h.l, h.s, h.p, delD_way h.d⟩
theorem part_ok (n : NetA) (f t : Int) : (partN n f t).1.Ok ∧ (partN n f t).1.Sz := by
  have : (partN n f t).1.Ok := by
    rcases part_cases n f t with ⟨_, h⟩ | ⟨_, _, h⟩ | ⟨_, _, _, h⟩ | ⟨hr, hp, hm, h⟩ <;> rw [h]
    · exact net0_ok
    · exact net0_ok
    · exact net0_ok
    · exact right_ok (right_ins (right_of hr) hp hm)
  exact ⟨this, this.sz⟩
theorem mend_ok (n : NetA) (f t : Int) : (mendN n f t).1.Ok ∧ (mendN n f t).1.Sz := by
  have : (mendN n f t).1.Ok := by
    rcases mend_cases n f t with ⟨_, h⟩ | ⟨_, _, h⟩ | ⟨hr, hp, hm, h⟩ | ⟨_, _, _, h⟩ <;> rw [h]
    · exact net0_ok
    · exact net0_ok
    · exact right_ok (right_del (right_of hr))
    · exact net0_ok
  exact ⟨this, this.sz⟩
theorem pkB_comm {f t : Int} : pkB f t 0 = true ↔ pkB t f 0 = true := by rw [pkB_iff, pkB_iff]; omega
theorem mend2 {n m : NetA} {f t : Int} (hn : Right n) (hm : Right m) (h : (f, t) ∈ n.d ↔ (f, t) ∈ m.d) : (mendN n f t).2 = (mendN m f t).2 := by
  unfold mendN
  rw [if_pos (right_is hn), if_pos (right_is hm)]
  by_cases h1 : (f, t) ∈ n.d
  · rw [if_pos h1, if_pos (h.1 h1)]; split <;> rfl
  · rw [if_neg h1, if_neg (fun h2 => h1 (h.2 h2))]
theorem back1 {n : NetA} {f t : Int} (h : (partN n f t).2 = 0) : mendN (partN n f t).1 f t = (n, 0) ∧ (mendN (partN n f t).1 t f).2 = (mendN n t f).2 ∧ (partN (partN n f t).1 f t).2 = 5 := by
  rcases part_cases n f t with ⟨_, h1⟩ | ⟨_, _, h1⟩ | ⟨_, _, _, h1⟩ | ⟨hr, hp, hm, -⟩
  · rw [h1] at h; cases h
  · rw [h1] at h; cases h
  · rw [h1] at h; cases h
  have hR := right_of hr
  rw [part_eq hr hp, if_neg hm]
  have hR2 := right_ins hR hp hm
  refine ⟨?_, ?_, ?_⟩
  · rw [mend_eq (right_is hR2) hp, if_pos (insD_mem.2 (.inl rfl))]
    simp only
    rw [insD_del hR.d hp hm]
  · refine mend2 hR2 hR ?_
    rw [insD_mem]
    have := pkB_iff.1 hp
    exact ⟨fun h => h.elim (fun e => by simp only [Prod.mk.injEq] at e; omega) id, .inr⟩
  · rw [part_eq (right_is hR2) hp, if_pos (insD_mem.2 (.inl rfl))]
theorem back2 {n : NetA} {f t : Int} (h : (mendN n f t).2 = 0) : partN (mendN n f t).1 f t = (n, 0) ∧ (mendN (mendN n f t).1 t f).2 = (mendN n t f).2 := by
  rcases mend_cases n f t with ⟨_, h1⟩ | ⟨_, _, h1⟩ | ⟨hr, hp, hm, -⟩ | ⟨_, _, _, h1⟩
  · rw [h1] at h; cases h
  · rw [h1] at h; cases h
  · have hR := right_of hr
    rw [mend_eq hr hp, if_pos hm]
    have hR2 := right_del (x := (f, t)) hR
    refine ⟨?_, ?_⟩
    · rw [part_eq (right_is hR2) hp, if_neg (fun h2 => ((delD_mem hR.d hm).1 h2).1 rfl)]
      simp only
      rw [delD_ins hR.d hm]
    · refine mend2 hR2 hR ?_
      rw [delD_mem hR.d hm]
      have := pkB_iff.1 hp
      exact ⟨fun h => h.2, fun h => ⟨fun e => by simp only [Prod.mk.injEq] at e; omega, h⟩⟩
  · rw [h1] at h; cases h
end Go.Proofs.Ytmhmldpccccjbaa

namespace Go.Proofs.Ytmhmldpccccjbaa
open Go.RowKit
set_option linter.unusedVariables false
set_option linter.unusedSimpArgs false

/-- A row of elements of sz cells: numbers at o, slices of bytes at o2 (where told). -/
structure RowV (S : Nat → Prop) (M : Nat) (w : World) (A : Option Addr) (n : Nat) (ps : List (Option Addr × Nat × Nat)) : Prop where
  len : ps.length = n
  row : ∀ ad, A = some ad → 0 < n → M ≤ ad.block ∧ Unf w ad.block ∧ S ad.block
  cell : ∀ (j : Nat) p, ps[j]? = some p → ∃ ad, A = some ad ∧ ICell w (ad.add (j * 4)) .i64 ∧ w.cell? ⟨(ad.add (j * 4)).block, (ad.add (j * 4)).off + 1 + 2, none⟩ = some (.slice p.1 p.2.1 p.2.2)
  data : ∀ p ∈ ps, ∀ k, k < p.2.1 → ∃ bd, p.1 = some bd ∧ M ≤ bd.block ∧ Unf w bd.block ∧ S bd.block ∧ ICell w (bd.add k) .u8
structure RowD (S : Nat → Prop) (M : Nat) (w : World) (A : Option Addr) (n : Nat) : Prop where
  row : ∀ ad, A = some ad → 0 < n → M ≤ ad.block ∧ Unf w ad.block ∧ S ad.block
  cell : ∀ (j : Nat), j < n → ∃ ad, A = some ad ∧ ICell w ⟨(ad.add (j * 2)).block, (ad.add (j * 2)).off + 1, none⟩ .i64
theorem RowV.grow {S : Nat → Prop} {M : Nat} {w w' : World} {A : Option Addr} {n : Nat} {ps : List (Option Addr × Nat × Nat)} (h : RowV S M w A n ps) (hb : Below w.heap.size w w') : RowV S M w' A n ps where
  len := h.len
  row ad ha h0 := ⟨(h.row ad ha h0).1, (h.row ad ha h0).2.1.grow hb, (h.row ad ha h0).2.2⟩
  cell j p hp := by
    obtain ⟨ad, h1, h2, h3⟩ := h.cell j p hp
    exact ⟨ad, h1, h2.grow hb, (hb.cell (World.block_lt_of_cell? w _ h3)).trans h3⟩
  data p hp k hk := by
    obtain ⟨bd, h1, h2, h3, h5, h4⟩ := h.data p hp k hk
    exact ⟨bd, h1, h2, h3.grow hb, h5, h4.grow hb⟩
theorem RowV.set {S : Nat → Prop} {M : Nat} {w : World} {A : Option Addr} {n : Nat} {ps : List (Option Addr × Nat × Nat)} (h : RowV S M w A n ps) {q : Addr} {k : IntKind} (hq : ICell w q k) (y : Int) : RowV S M (w.setCell q (.int k y)) A n ps where
  len := h.len
  row ad ha h0 := ⟨(h.row ad ha h0).1, (h.row ad ha h0).2.1.set q _, (h.row ad ha h0).2.2⟩
  cell j p hp := by
    obtain ⟨ad, h1, h2, h3⟩ := h.cell j p hp
    exact ⟨ad, h1, h2.set hq y, cell_set h3 hq y⟩
  data p hp k hk := by
    obtain ⟨bd, h1, h2, h3, h5, h4⟩ := h.data p hp k hk
    exact ⟨bd, h1, h2, h3.set q _, h5, h4.set hq y⟩
theorem RowD.grow {S : Nat → Prop} {M : Nat} {w w' : World} {A : Option Addr} {n : Nat} (h : RowD S M w A n) (hb : Below w.heap.size w w') : RowD S M w' A n where
  row ad ha h0 := ⟨(h.row ad ha h0).1, (h.row ad ha h0).2.1.grow hb, (h.row ad ha h0).2.2⟩
  cell j hj := by
    obtain ⟨ad, h1, h2⟩ := h.cell j hj
    exact ⟨ad, h1, h2.grow hb⟩
theorem RowD.set {S : Nat → Prop} {M : Nat} {w : World} {A : Option Addr} {n : Nat} (h : RowD S M w A n) {q : Addr} {k : IntKind} (hq : ICell w q k) (y : Int) : RowD S M (w.setCell q (.int k y)) A n where
  row ad ha h0 := ⟨(h.row ad ha h0).1, (h.row ad ha h0).2.1.set q _, (h.row ad ha h0).2.2⟩
  cell j hj := by
    obtain ⟨ad, h1, h2⟩ := h.cell j hj
    exact ⟨ad, h1, h2.set hq y⟩
def netV (A : Option Addr) (n c : Nat) (l : Int) (D : Option Addr) (m d : Nat) : Value := .agg #[.slice A n c, .int .i64 l, .slice D m d]

set_option maxHeartbeats 1600000 in
theorem spoil_any (S : Nat → Prop) (M : Nat) (A : Option Addr) (n c : Nat) (ps : List (Option Addr × Nat × Nat)) (l : Int) (D : Option Addr) (m d : Nat) (w : World) (hv : RowV S M w A n ps) (hd : RowD S M w D m) (hn : n ≤ 1000000000) (hm : m ≤ 1000000000) (hpl : ∀ p ∈ ps, p.2.1 ≤ 1000000000000) (hM : M ≤ w.heap.size) :
    Calls Try.prog 19 #[netV A n c l D m d] w fun e w' => e = .returned (.tuple #[]) ∧ ShpS S M w w' := by
  have HPL := Lib.hid hv.len
  unfold netV
  go_enter Try.func19, Try.ntmps19
  have q0 := Blk.new w 25 #[.slice A n c, .int .i64 l, .slice D m d]
  have c0 := q0.cell 0
  simp at c0
  have hB0 := (ShpS.refl S M w).grow hM ((Below.refl w.heap.size w).alloc (Nat.le_refl _) (.cells #[.slice A n c, .int .i64 l, .slice D m d] 25))
  have hlt0 : ∀ ad, A = some ad → 0 < n → w.heap.size ≠ ad.block := fun ad ha h0 => by have := (hv.row ad ha h0).2.1.lt_; omega
  have hlt2 : ∀ ad, D = some ad → 0 < m → w.heap.size ≠ ad.block := fun ad ha h0 => by have := (hd.row ad ha h0).2.1.lt_; omega
  have hlt1 : ∀ p ∈ ps, ∀ bd, p.1 = some bd → 0 < p.2.1 → w.heap.size ≠ bd.block := fun p hp bd hb h0 => by
    obtain ⟨bd', h1, _, h2, _⟩ := hv.data p hp 0 h0
    rw [hb] at h1
    injection h1 with h1
    subst h1
    have := h2.lt_
    omega
  have hv1 := hv.grow ((Below.refl w.heap.size w).alloc (Nat.le_refl _) (.cells #[.slice A n c, .int .i64 l, .slice D m d] 25))
  have hd1 := hd.grow ((Below.refl w.heap.size w).alloc (Nat.le_refl _) (.cells #[.slice A n c, .int .i64 l, .slice D m d] 25))
  clear hv hd
  go_wp2
  go_loopw [8] (fun v wr => ∃ (k : Nat), k ≤ n ∧ v = .int .i64 k ∧ RowV S M wr A n ps ∧ RowD S M wr D m ∧ Blk wr w.heap.size 25 #[.slice A n c, .int .i64 l, .slice D m d] ∧ ShpS S M w wr) (fun v _ => n - (intOf v).toNat)
  case atStart => exact ⟨0, by omega, rfl, hv1, hd1, q0, hB0⟩
  case round =>
    clear hv1 hd1 q0 hB0 c0
    obtain ⟨k, hk, rfl, hv, hd, q, hB⟩ := hrel
    have c1 := q.cell 0
    have c2 := q.cell 2
    simp at c1 c2
    by_cases hlt : k < n
    · obtain ⟨p, hp⟩ : ∃ p, ps[k]? = some p := ⟨ps[k]'(by have := HPL.out; omega), List.getElem?_eq_getElem _⟩
      obtain ⟨ad, rfl, ⟨x, hx⟩, hD⟩ := hv.cell k p hp
      have hpn := hpl p (List.mem_of_getElem? hp)
      have hpm := List.mem_of_getElem? hp
      obtain ⟨f0, hu, hS0⟩ := hv.row ad rfl (by omega)
      have g0 := hlt0 ad rfl (by omega)
      have hf : wr.frozen? (ad.add (k * 4)) = false := Unf.frozen (by rw [addr_block]; exact hu)
      have hv2 := hv.set (q := ad.add (k * 4)) ⟨x, hx⟩
      have hd2 := hd.set (q := ad.add (k * 4)) ⟨x, hx⟩
      have q2 := fun u => q.far (p := ad.add (k * 4)) (by rw [addr_block]; exact g0) u
      have hB2 := hB.set (q := ad.add (k * 4)) (by rw [addr_block]; exact f0) (by rw [addr_block]; exact hS0) ⟨x, hx⟩
      have hv3 := hv2 99
      have hd3 := hd2 99
      have q3 := q2 (.int .i64 99)
      have hB3 := hB2 99
      clear hv hd q hB hu hD c2 hv2 hd2 q2 hB2
      obtain ⟨ad', e1, -, hD⟩ := hv3.cell k p hp
      injection e1 with e1
      subst e1
      have c3 := q3.cell 0
      simp at c3
      go_wp2
      go_loopw [24] (fun v wr => ∃ (k2 : Nat), k2 ≤ p.2.1 ∧ v = .int .i64 k2 ∧ RowV S M wr (some ad) n ps ∧ RowD S M wr D m ∧ Blk wr w.heap.size 25 #[.slice (some ad) n c, .int .i64 l, .slice D m d] ∧ ShpS S M w wr) (fun v _ => p.2.1 - (intOf v).toNat)
      case atStart => exact ⟨0, by omega, rfl, hv3, hd3, q3, hB3⟩
      case round =>
        clear hD hv3 hd3 q3 hB3 c1 c3 hf hx
        obtain ⟨k2, hk2, rfl, hv, hd, q, hB⟩ := hrel
        have c1 := q.cell 0
        simp at c1
        obtain ⟨ad', e1, -, hD⟩ := hv.cell k p hp
        injection e1 with e1
        subst e1
        by_cases hlt2' : k2 < p.2.1
        · obtain ⟨bd, hbd, hM2, hu, hS2, x, hx⟩ := hv.data p hpm k2 hlt2'
          have hne := hlt1 p hpm bd hbd (by omega)
          have hf : wr.frozen? (bd.add k2) = false := Unf.frozen (by rw [addr_block]; exact hu)
          have hv2 := hv.set (q := bd.add k2) ⟨x, hx⟩
          have hd2 := hd.set (q := bd.add k2) ⟨x, hx⟩
          have q2 := fun u => q.far (p := bd.add k2) (by rw [addr_block]; exact hne) u
          have hB2 := hB.set (q := bd.add k2) (by rw [addr_block]; exact hM2) (by rw [addr_block]; exact hS2) ⟨x, hx⟩
          rw [hbd] at hD
          clear hv hd q hB hu
          go_wp2
          go_roundw
          case rel => exact ⟨k2 + 1, by omega, by go_num, hv2 _, hd2 _, q2 _, hB2 _⟩
          case measure => simp [intOf]; omega
        · obtain rfl : k2 = p.2.1 := by omega
          clear hD
          go_wp2
          go_roundw
          case rel => exact ⟨k + 1, by omega, by go_num, hv, hd, q, hB⟩
          case measure => simp [intOf]; omega
    · obtain ⟨k0, hk0⟩ : ∃ k0, k0 = n := ⟨_, rfl⟩
      obtain rfl : k = n := by omega
      go_wp2
      go_loopw [44] (fun v wr => ∃ (k2 : Nat), k2 ≤ m ∧ v = .int .i64 k2 ∧ RowD S M wr D m ∧ Blk wr w.heap.size 25 #[.slice A k c, .int .i64 l, .slice D m d] ∧ ShpS S M w wr) (fun v _ => m - (intOf v).toNat)
      case atStart => exact ⟨0, by omega, rfl, hd, q, hB⟩
      case round =>
        clear hv hd q hB c1 c2
        obtain ⟨j, hj, rfl, hd, q, hB⟩ := hrel
        have c1 := q.cell 2
        simp at c1
        by_cases hlt' : j < m
        · obtain ⟨ad, rfl, x, hx⟩ := hd.cell j hlt'
          obtain ⟨f0, hu, hS0⟩ := hd.row ad rfl (by omega)
          have g0 := hlt2 ad rfl (by omega)
          have hf : wr.frozen? ⟨(ad.add (j * 2)).block, (ad.add (j * 2)).off + 1, none⟩ = false := Unf.frozen (by rw [addr_block]; exact hu)
          have hd2 := hd.set (q := ⟨(ad.add (j * 2)).block, (ad.add (j * 2)).off + 1, none⟩) ⟨x, hx⟩
          have q2 := fun u => q.far (p := ⟨(ad.add (j * 2)).block, (ad.add (j * 2)).off + 1, none⟩) (by rw [addr_block]; exact g0) u
          have hB2 := hB.set (q := ⟨(ad.add (j * 2)).block, (ad.add (j * 2)).off + 1, none⟩) (by rw [addr_block]; exact f0) (by rw [addr_block]; exact hS0) ⟨x, hx⟩
          clear hd q hB hu
          go_wp2
          go_roundw
          case rel => exact ⟨j + 1, by omega, by go_num, hd2 _, q2 _, hB2 _⟩
          case measure => simp [intOf]; omega
        · obtain rfl : j = m := by omega
          go_wp2
          exact bodyPost_end (v := .tuple #[]) (by simp [results, Try.f19]) rfl ⟨rfl, hB⟩
theorem bytesV {C : Cx} : ∀ {l : List Int} {css : List (List Value)}, DnLL C (l.map by1) css → ∀ k, k < l.length → ∃ x, css.flatten[k]? = some (.int .u8 x)
  | [], css, h, k, hk => by simp at hk
  | x :: l, css, h, k, hk => by
    simp only [List.map_cons, DnLL] at h
    obtain ⟨u, us, rfl, h1, h2⟩ := h
    simp only [by1, DnL, Dn] at h1
    obtain ⟨v, vs, rfl, h3, rfl⟩ := h1
    subst h3
    cases k with
    | zero => exact ⟨x, rfl⟩
    | succ k => simpa using bytesV h2 k (by simpa using hk)
/-- What a slot's cells are. -/
theorem slV {C : Cx} {s : Sl} {cs : List Value} (h : DnL C (slC true s) cs) : ∃ (p : Option Addr × Nat × Nat), cs = [.int .i64 s.a, .int .i64 s.f, .int .i64 s.t, .slice p.1 p.2.1 p.2.2] ∧ p.2.1 = s.b.length ∧ ∀ k, k < p.2.1 → ∃ bd, p.1 = some bd ∧ C.B ≤ bd.block ∧ Unf C.w bd.block ∧ C.S bd.block ∧ ICell C.w (bd.add k) .u8 := by
  simp only [slC, DnL, Dn] at h
  obtain ⟨u1, us1, rfl, rfl, u2, us2, rfl, rfl, u4, us4, rfl, rfl, u3, us3, rfl, ⟨A, c, css, sz, rfl, h2, h3, h4, h5, h6, h7⟩, rfl⟩ := h
  refine ⟨(A, (s.b.map by1).length, c), rfl, by simp, fun k hk => ?_⟩
  have hk' : k < s.b.length := by simpa using hk
  cases A with
  | none =>
    have := h4 rfl
    rw [List.map_eq_nil_iff] at this
    rw [this] at hk'
    simp at hk'
  | some bd =>
    obtain ⟨h8, h9⟩ := h7 bd rfl
    obtain ⟨hS, _, h10⟩ := h8 (by intro h0; rw [List.map_eq_nil_iff] at h0; rw [h0] at hk'; simp at hk')
    obtain ⟨x, hx⟩ := bytesV h6 k hk'
    exact ⟨bd, rfl, (h10 trivial).1, (h10 trivial).2, hS, x, h9 k _ hx⟩
theorem slsV {C : Cx} : ∀ {es : List Sl} {css : List (List Value)}, DnLL C (es.map (slC true)) css → ∃ ps : List (Option Addr × Nat × Nat), ps.length = es.length ∧ (∀ p ∈ ps, ∃ e ∈ es, p.2.1 = e.b.length) ∧
    (∀ p ∈ ps, ∀ k, k < p.2.1 → ∃ bd, p.1 = some bd ∧ C.B ≤ bd.block ∧ Unf C.w bd.block ∧ C.S bd.block ∧ ICell C.w (bd.add k) .u8) ∧
    ∀ (j : Nat) p, ps[j]? = some p → (∃ x, css.flatten[j * 4]? = some (.int .i64 x)) ∧ css.flatten[j * 4 + 3]? = some (.slice p.1 p.2.1 p.2.2)
  | [], css, h => ⟨[], rfl, by simp, by simp, by simp⟩
  | e :: es, css, h => by
    simp only [List.map_cons, DnLL] at h
    obtain ⟨u, us, rfl, h1, h2⟩ := h
    obtain ⟨p, rfl, h3, h4⟩ := slV h1
    obtain ⟨ps, g1, g2, g3, g4⟩ := slsV h2
    refine ⟨p :: ps, by simp [g1], ?_, ?_, ?_⟩
    · intro q hq
      rcases List.mem_cons.1 hq with rfl | hq
      · exact ⟨e, by simp, h3⟩
      · obtain ⟨e', he, h5⟩ := g2 q hq
        exact ⟨e', by simp [he], h5⟩
    · intro q hq
      rcases List.mem_cons.1 hq with rfl | hq
      · exact h4
      · exact g3 q hq
    · intro j q hq
      cases j with
      | zero =>
        simp only [List.getElem?_cons_zero, Option.some.injEq] at hq
        subst hq
        exact ⟨⟨e.a, rfl⟩, rfl⟩
      | succ j =>
        simp only [List.getElem?_cons_succ] at hq
        obtain ⟨⟨x, hx⟩, hy⟩ := g4 j q hq
        refine ⟨⟨x, ?_⟩, ?_⟩
        · rw [show (j + 1) * 4 = j * 4 + 4 by omega]; simpa using hx
        · rw [show (j + 1) * 4 + 3 = (j * 4 + 3) + 4 by omega]; simpa using hy
theorem dfsV {C : Cx} : ∀ {ds : List (Int × Int)} {css : List (List Value)}, DnLL C (ds.map dfC) css → ∀ j, j < ds.length → ∃ x, css.flatten[j * 2 + 1]? = some (.int .i64 x)
  | [], css, h, j, hj => by simp at hj
  | d :: ds, css, h, j, hj => by
    simp only [List.map_cons, DnLL] at h
    obtain ⟨u, us, rfl, h1, h2⟩ := h
    simp only [dfC, DnL, Dn] at h1
    obtain ⟨u1, us1, rfl, rfl, u2, us2, rfl, rfl, rfl⟩ := h1
    cases j with
    | zero => exact ⟨d.2, rfl⟩
    | succ j =>
      obtain ⟨x, hx⟩ := dfsV h2 j (by simpa using hj)
      exact ⟨x, by rw [show (j + 1) * 2 + 1 = (j * 2 + 1) + 2 by omega]; simpa using hx⟩
theorem addr_off (ad : Addr) (i o : Nat) (ho : 0 < o) : (⟨(ad.add i).block, (ad.add i).off + o, none⟩ : Addr) = ad.add (i + o) := by
  unfold Addr.add
  by_cases h0 : i = 0
  · subst h0; simp; intro e; omega
  · rw [if_neg h0, if_neg (by omega)]; simp only [Nat.add_assoc]
theorem spoil_S {n : NetA} (hn : n.s.length ≤ 1000000000) (hm : n.d.length ≤ 1000000000) (hd : ∀ e ∈ n.s, e.b.length ≤ 1000000000000) : SpL Try.prog 19 [netT true true true n] := ⟨by kernel_rfl, fun C vals hB hh => by
  simp only [netT, DnL, Dn] at hh
  obtain ⟨u, us, rfl, ⟨vs, rfl, u1, us1, rfl, ⟨A, c, css, sz, rfl, h2, h3, h4, h5, h6, h7⟩, u2, us2, rfl, rfl, u3, us3, rfl, ⟨D, dc, dss, dz, rfl, d2, d3, d4, d5, d6, d7⟩, rfl⟩, rfl⟩ := hh
  obtain ⟨ps, g1, g2, g3, g4⟩ := slsV h6
  have hl : (n.s.map (slC true)).length = n.s.length := by simp
  have hl2 : (n.d.map dfC).length = n.d.length := by simp
  have hp : ∀ ad, A = some ad → 0 < n.s.length → C.B ≤ ad.block ∧ Unf C.w ad.block ∧ C.S ad.block := fun ad ha h0 => by
    obtain ⟨q1, _, q2⟩ := (h7 ad ha).1 (by intro hz; rw [List.map_eq_nil_iff] at hz; rw [hz] at h0; simp at h0)
    exact ⟨(q2 trivial).1, (q2 trivial).2, q1⟩
  have hv : RowV C.S C.B C.w A (n.s.map (slC true)).length ps := by
    rw [hl]
    refine ⟨g1, hp, fun j p hj => ?_, g3⟩
    obtain ⟨⟨x, hx⟩, hy⟩ := g4 j p hj
    cases A with
    | none =>
      have := h4 rfl
      rw [List.map_eq_nil_iff] at this
      rw [this] at g1
      have := (List.getElem?_eq_some_iff.1 hj).1
      simp at g1
      rw [g1] at this
      simp at this
    | some ad =>
      refine ⟨ad, rfl, ⟨x, (h7 ad rfl).2 _ _ hx⟩, ?_⟩
      rw [show (⟨(ad.add (j * 4)).block, (ad.add (j * 4)).off + 1 + 2, none⟩ : Addr) = ad.add (j * 4 + 3) from addr_off ad (j * 4) 3 (by omega)]
      exact (h7 ad rfl).2 _ _ hy
  have hw : RowD C.S C.B C.w D (n.d.map dfC).length := by
    rw [hl2]
    refine ⟨fun ad ha h0 => ?_, fun j hj => ?_⟩
    · obtain ⟨q1, _, q2⟩ := (d7 ad ha).1 (by intro hz; rw [List.map_eq_nil_iff] at hz; rw [hz] at h0; simp at h0)
      exact ⟨(q2 trivial).1, (q2 trivial).2, q1⟩
    · cases D with
      | none =>
        have := d4 rfl
        rw [List.map_eq_nil_iff] at this
        rw [this] at hj
        simp at hj
      | some ad =>
        obtain ⟨x, hx⟩ := dfsV d6 j hj
        refine ⟨ad, rfl, x, ?_⟩
        rw [addr_off ad (j * 2) 1 (by omega)]
        exact (d7 ad rfl).2 _ _ hx
  exact spoil_any C.S C.B A _ c ps n.l D _ dc C.w hv hw (by rw [hl]; exact hn) (by rw [hl2]; exact hm) (fun p hpm => by obtain ⟨e, he, h5⟩ := g2 p hpm; rw [h5]; exact hd e he) hB⟩
theorem bl_bytes {C C' : Cx} : ∀ {l : List Int} {css : List (List Value)}, DnLL C (l.map by1) css → ∀ {css2 : List (List Value)}, css2.length = css.length → (∀ (k : Nat) (v : Value), css.flatten[k]? = some v → css2.flatten[k]? = some v ∨ ∃ x, css2.flatten[k]? = some (.int .u8 x)) → (∀ x ∈ css2, x.length = 1) → ∃ l2 : List Int, l2.length = l.length ∧ DnLL C' (l2.map by1) css2
  | [], css, h, css2, hl, hc, h1 => by
    simp only [List.map_nil, DnLL] at h
    subst h
    exact ⟨[], rfl, by simp only [List.map_nil, DnLL]; exact List.eq_nil_of_length_eq_zero hl⟩
  | x :: l, css, h, [], hl, hc, h1 => by
    simp only [List.map_cons, DnLL] at h
    obtain ⟨u, us, rfl, _, _⟩ := h
    simp at hl
  | x :: l, css, h, y :: css2, hl, hc, h1 => by
    simp only [List.map_cons, DnLL] at h
    obtain ⟨u, us, rfl, h2, h3⟩ := h
    simp only [by1, DnL, Dn] at h2
    obtain ⟨v, vs, rfl, h4, rfl⟩ := h2
    subst h4
    have hy := h1 y (by simp)
    obtain ⟨z, rfl⟩ : ∃ z, y = [z] := by
      cases y with
      | nil => simp at hy
      | cons z r => cases r with
        | nil => exact ⟨z, rfl⟩
        | cons _ _ => simp at hy
    have h5 := hc 0 _ rfl
    obtain ⟨x2, rfl⟩ : ∃ x2, z = .int .u8 x2 := by
      rcases h5 with h5 | ⟨x2, h5⟩
      · exact ⟨x, by simpa using h5⟩
      · exact ⟨x2, by simpa using h5⟩
    obtain ⟨l2, h6, h7⟩ := bl_bytes (C' := C') h3 (css2 := css2) (by simpa using hl) (fun k v hk => by simpa using hc (k + 1) v (by simpa using hk)) (fun w hw => h1 w (by simp [hw]))
    exact ⟨x2 :: l2, by simp [h6], by simp only [List.map_cons, DnLL]; exact ⟨_, _, rfl, by simp [by1, DnL, Dn], h7⟩⟩
/-- The cells of a row behind a call that writes numbers over numbers. -/
theorem bl_cells {M : Nat} {w w' : World} (hs : Shp M w w') {ad : Addr} : ∀ (cs : List Value), (∀ (j : Nat) (x : Value), cs[j]? = some x → w.cell? (ad.add j) = some x) → ∃ cs2 : List Value, cs2.length = cs.length ∧ (∀ (j : Nat) (x : Value), cs2[j]? = some x → w'.cell? (ad.add j) = some x) ∧ ∀ (j : Nat) (x : Value), cs[j]? = some x → cs2[j]? = some x ∨ ∃ k y z, x = .int k y ∧ cs2[j]? = some (.int k z) := by
  intro cs h
  refine ⟨(List.range cs.length).map fun j => (w'.cell? (ad.add j)).getD .nilFunc, by simp, fun j x hx => ?_, fun j x hx => ?_⟩
  · rw [List.getElem?_map] at hx
    cases hr : (List.range cs.length)[j]? with
    | none => rw [hr] at hx; cases hx
    | some k =>
      obtain ⟨hk, rfl⟩ := List.getElem?_eq_some_iff.1 hr
      rw [hr] at hx
      simp only [Option.map_some, Option.some.injEq, List.getElem_range] at hx
      have hj : j < cs.length := by simpa using hk
      rcases hs.cell _ _ (h j cs[j] (List.getElem?_eq_getElem hj)) with h4 | ⟨k, a, b, h4, h5⟩
      · rw [h4] at hx; rw [h4, ← hx]; rfl
      · rw [h5] at hx; rw [h5, ← hx]; rfl
  · have hj := (List.getElem?_eq_some_iff.1 hx).1
    rw [List.getElem?_map, List.getElem?_range hj]
    rcases hs.cell _ _ (h j x hx) with h4 | ⟨k, a, b, h4, h5⟩
    · left; simp [h4]
    · right; exact ⟨k, a, b, h4, by simp [h5]⟩
theorem Dn.sl_e {C : Cx} {b : Bool} {els : List (List TV)} {u : Value} (h : Dn C (.sl b els) u) : ∃ (A : Option Addr) (c : Nat) (css : List (List Value)) (sz : Nat), u = .slice A els.length c ∧ els.length ≤ c ∧ c ≤ maxLen ∧ (A = none → els = []) ∧ (∀ x ∈ css, x.length = sz) ∧ DnLL C els css ∧
    ∀ ad, A = some ad → (els ≠ [] → C.S ad.block ∧ ad.block < C.w.heap.size ∧ (b = true → C.B ≤ ad.block ∧ Unf C.w ad.block)) ∧ ∀ (j : Nat) (x : Value), css.flatten[j]? = some x → C.w.cell? (ad.add j) = some x := by
  simp only [Dn] at h; exact h
theorem Dn.sl_m {C : Cx} {b : Bool} {els : List (List TV)} {A : Option Addr} {c : Nat} {css : List (List Value)} {sz : Nat} (h1 : els.length ≤ c) (h2 : c ≤ maxLen) (h3 : A = none → els = []) (h4 : ∀ x ∈ css, x.length = sz) (h5 : DnLL C els css)
    (h6 : ∀ ad, A = some ad → (els ≠ [] → C.S ad.block ∧ ad.block < C.w.heap.size ∧ (b = true → C.B ≤ ad.block ∧ Unf C.w ad.block)) ∧ ∀ (j : Nat) (x : Value), css.flatten[j]? = some x → C.w.cell? (ad.add j) = some x) : Dn C (.sl b els) (.slice A els.length c) := by
  simp only [Dn]; exact ⟨A, c, css, sz, rfl, h1, h2, h3, h4, h5, h6⟩
theorem sing_flat : ∀ {cs : List Value}, (cs.map fun x => [x]).flatten = cs
  | [] => rfl
  | x :: cs => by simp [sing_flat (cs := cs)]
theorem bl_sl {C C' : Cx} (hs : ShpS C.S C.B C.w C'.w) (hB : C'.B = C.B) (hS : ∀ k, C.S k → C'.S k) {ad : Addr} (h : C.S ad.block ∧ ad.block < C.w.heap.size ∧ (true = true → C.B ≤ ad.block ∧ Unf C.w ad.block)) : C'.S ad.block ∧ ad.block < C'.w.heap.size ∧ (true = true → C'.B ≤ ad.block ∧ Unf C'.w ad.block) :=
  ⟨hS _ h.1, Nat.lt_of_lt_of_le h.2.1 hs.s.below.size, fun _ => ⟨by rw [hB]; exact (h.2.2 rfl).1, hs.s.unf _ (h.2.2 rfl).2⟩⟩
theorem bl_data {C C' : Cx} (hs : ShpS C.S C.B C.w C'.w) (hB : C'.B = C.B) (hS : ∀ k, C.S k → C'.S k) {l : List Int} {u : Value} (h : Dn C (.sl true (l.map by1)) u) : ∃ l2 : List Int, l2.length = l.length ∧ Dn C' (.sl true (l2.map by1)) u := by
  obtain ⟨A, c, css, sz, rfl, h2, h3, h4, h5, h6, h7⟩ := h.sl_e
  have hcl := h6.len
  cases A with
  | none =>
    have := h4 rfl
    rw [List.map_eq_nil_iff] at this
    subst this
    exact ⟨[], rfl, Dn.sl_m (css := []) (sz := 0) h2 h3 (fun _ => rfl) (by simp) (by simp [DnLL]) (fun ad ha => by cases ha)⟩
  | some ad =>
    obtain ⟨h8, h9⟩ := h7 ad rfl
    obtain ⟨cs2, g1, g2, g3⟩ := bl_cells hs.s (ad := ad) css.flatten h9
    have hall : ∀ (k : Nat) (v : Value), css.flatten[k]? = some v → (cs2.map fun x => [x]).flatten[k]? = some v ∨ ∃ x, (cs2.map fun x => [x]).flatten[k]? = some (.int .u8 x) := by
      intro k v hv
      rw [sing_flat]
      rcases g3 k v hv with h1 | ⟨kk, y, z, h1, h2⟩
      · exact .inl h1
      · have hk : k < l.length := by
          have h3 := (List.getElem?_eq_some_iff.1 hv).1
          have : css.flatten.length = l.length := by
            have key : ∀ (l : List Int) (css : List (List Value)), DnLL C (l.map by1) css → css.flatten.length = l.length := by
              intro l
              induction l with
              | nil => intro css h; simp only [List.map_nil, DnLL] at h; subst h; rfl
              | cons x l ih =>
                intro css h
                simp only [List.map_cons, DnLL] at h
                obtain ⟨u, us, rfl, h2, h3⟩ := h
                have := h2.len
                have := ih us h3
                simp [by1] at *
                omega
            exact key l css h6
          omega
        obtain ⟨x, hx⟩ := bytesV h6 k hk
        rw [hv] at hx
        rw [h1] at hx
        injection hx with hx
        injection hx with hx hx2
        subst hx
        exact .inr ⟨z, h2⟩
    have hfl : css.flatten.length = css.length := by
      have key : ∀ (l : List Int) (css : List (List Value)), DnLL C (l.map by1) css → css.flatten.length = css.length := by
        intro l
        induction l with
        | nil => intro css h; simp only [List.map_nil, DnLL] at h; subst h; rfl
        | cons x l ih =>
          intro css h
          simp only [List.map_cons, DnLL] at h
          obtain ⟨u, us, rfl, h2, h3⟩ := h
          have := h2.len
          have := ih us h3
          simp [by1] at *
          omega
      exact key l css h6
    obtain ⟨l2, g4, g5⟩ := bl_bytes (C' := C') h6 (css2 := cs2.map fun x => [x]) (by simp [g1, hfl]) hall (fun x hx => by obtain ⟨y, _, rfl⟩ := List.mem_map.1 hx; rfl)
    refine ⟨l2, g4, ?_⟩
    have e1 : (l.map by1).length = (l2.map by1).length := by simp [g4]
    rw [e1] at h2 ⊢
    refine Dn.sl_m (sz := 1) h2 h3 (fun h => by cases h) (fun x hx => by obtain ⟨y, _, rfl⟩ := List.mem_map.1 hx; rfl) g5 (fun ad' ha => ?_)
    injection ha with ha
    subst ha
    refine ⟨fun hne => bl_sl hs hB hS (h8 fun h0 => hne ?_), fun j x hx => g2 j x (by rw [sing_flat] at hx; exact hx)⟩
    rw [List.map_eq_nil_iff] at h0 ⊢
    subst h0
    exact List.eq_nil_of_length_eq_zero g4
theorem bl_rows {C C' : Cx} (hs : ShpS C.S C.B C.w C'.w) (hB : C'.B = C.B) (hS : ∀ k, C.S k → C'.S k) : ∀ {es : List Sl} {css : List (List Value)} {cs2 : List Value}, DnLL C (es.map (slC true)) css → cs2.length = css.flatten.length → (∀ (j : Nat) (x : Value), css.flatten[j]? = some x → cs2[j]? = some x ∨ ∃ k y z, x = .int k y ∧ cs2[j]? = some (.int k z)) →
    ∃ (es2 : List Sl) (css2 : List (List Value)), css2.flatten = cs2 ∧ (∀ x ∈ css2, x.length = 4) ∧ es2.length = es.length ∧ (∀ e ∈ es2, ∃ e0 ∈ es, e.b.length = e0.b.length) ∧ DnLL C' (es2.map (slC true)) css2
  | [], css, cs2, h, hl, hc => by
    simp only [List.map_nil, DnLL] at h
    subst h
    obtain rfl : cs2 = [] := List.eq_nil_of_length_eq_zero (by simpa using hl)
    exact ⟨[], [], rfl, by simp, rfl, by simp, by simp [DnLL]⟩
  | e :: es, css, cs2, h, hl, hc => by
    simp only [List.map_cons, DnLL] at h
    obtain ⟨u, us, rfl, h1, h2⟩ := h
    simp only [slC, DnL] at h1
    obtain ⟨u1, us1, rfl, h11, u2, us2, rfl, h12, u4, us4, rfl, h14, u3, us3, rfl, h13, rfl⟩ := h1
    simp only [Dn] at h11 h12 h14
    subst h11 h12 h14
    match cs2, hl, hc with
    | x1 :: x2 :: x4 :: x3 :: cs2, hl, hc =>
      obtain ⟨es2, css2, g1, g2, g3, g4, g5⟩ := bl_rows hs hB hS (cs2 := cs2) h2 (by simp only [List.flatten_cons, List.length_append, List.length_cons, List.length_nil] at hl; omega) (fun j x hx => by have := hc (j + 4) x (by simpa using hx); simpa using this)
      obtain ⟨D2, g6, g7⟩ := bl_data hs hB hS h13
      have q1 : ∃ a, x1 = .int .i64 a := by
        rcases hc 0 _ rfl with h | ⟨k, y, z, h3, h4⟩
        · exact ⟨e.a, by simpa using h⟩
        · injection h3 with h3; subst h3; exact ⟨z, by simpa using h4⟩
      have q2 : ∃ a, x2 = .int .i64 a := by
        rcases hc 1 _ rfl with h | ⟨k, y, z, h3, h4⟩
        · exact ⟨e.f, by simpa using h⟩
        · injection h3 with h3; subst h3; exact ⟨z, by simpa using h4⟩
      have q4 : ∃ a, x4 = .int .i64 a := by
        rcases hc 2 _ rfl with h | ⟨k, y, z, h3, h4⟩
        · exact ⟨e.t, by simpa using h⟩
        · injection h3 with h3; subst h3; exact ⟨z, by simpa using h4⟩
      have q3 : x3 = u3 := by
        rcases hc 3 _ rfl with h | ⟨k, y, z, h3, h4⟩
        · simpa using h
        · subst h3
          obtain ⟨_, _, _, _, h, _⟩ := h13.sl_e
          cases h
      obtain ⟨T2, rfl⟩ := q1
      obtain ⟨K2, rfl⟩ := q2
      obtain ⟨J2, rfl⟩ := q4
      subst q3
      refine ⟨⟨T2, K2, J2, D2⟩ :: es2, [.int .i64 T2, .int .i64 K2, .int .i64 J2, x3] :: css2, by simp [g1], ?_, by simp [g3], ?_, ?_⟩
      · intro x hx
        rcases List.mem_cons.1 hx with rfl | hx
        · rfl
        · exact g2 x hx
      · intro x hx
        rcases List.mem_cons.1 hx with rfl | hx
        · exact ⟨e, by simp, g6⟩
        · obtain ⟨e0, h5, h6⟩ := g4 x hx
          exact ⟨e0, by simp [h5], h6⟩
      · simp only [List.map_cons, DnLL]
        refine ⟨_, _, rfl, ?_, g5⟩
        simp only [slC, DnL]
        exact ⟨_, _, rfl, by simp only [Dn], _, _, rfl, by simp only [Dn], _, _, rfl, by simp only [Dn], _, _, rfl, g7, rfl⟩
    | [], hl, _ => simp at hl
    | [_], hl, _ => simp at hl
    | [_, _], hl, _ => simp at hl
    | [_, _, _], hl, _ => simp at hl
theorem bl_sls {C C' : Cx} (hs : ShpS C.S C.B C.w C'.w) (hB : C'.B = C.B) (hS : ∀ k, C.S k → C'.S k) {es : List Sl} {u : Value} (h : Dn C (.sl true (es.map (slC true))) u) : ∃ es2 : List Sl, es2.length = es.length ∧ (∀ e ∈ es2, ∃ e0 ∈ es, e.b.length = e0.b.length) ∧ Dn C' (.sl true (es2.map (slC true))) u := by
  obtain ⟨A, c, css, sz, rfl, h2, h3, h4, h5, h6, h7⟩ := h.sl_e
  cases A with
  | none =>
    have := h4 rfl
    rw [List.map_eq_nil_iff] at this
    subst this
    exact ⟨[], rfl, by simp, Dn.sl_m (css := []) (sz := 0) h2 h3 (fun _ => rfl) (by simp) (by simp [DnLL]) (fun ad ha => by cases ha)⟩
  | some ad =>
    obtain ⟨h8, h9⟩ := h7 ad rfl
    obtain ⟨cs2, g1, g2, g3⟩ := bl_cells hs.s (ad := ad) css.flatten h9
    obtain ⟨es2, css2, k1, k2, k3, k4, k5⟩ := bl_rows hs hB hS h6 g1 g3
    refine ⟨es2, k3, k4, ?_⟩
    have e1 : (es.map (slC true)).length = (es2.map (slC true)).length := by simp [k3]
    rw [e1] at h2 ⊢
    refine Dn.sl_m (sz := 4) h2 h3 (fun h => by cases h) k2 k5 (fun ad' ha => ?_)
    injection ha with ha
    subst ha
    refine ⟨fun hne => bl_sl hs hB hS (h8 fun h0 => hne ?_), fun j x hx => g2 j x (by rw [k1] at hx; exact hx)⟩
    rw [List.map_eq_nil_iff] at h0 ⊢
    subst h0
    exact List.eq_nil_of_length_eq_zero k3
end Go.Proofs.Ytmhmldpccccjbaa

namespace Go.Proofs.Ytmhmldpccccjbaa
open Go.RowKit
set_option linter.unusedVariables false
set_option linter.unusedSimpArgs false

theorem bl_drows {C C' : Cx} : ∀ {ds : List (Int × Int)} {css : List (List Value)} {cs2 : List Value}, DnLL C (ds.map dfC) css → cs2.length = css.flatten.length → (∀ (j : Nat) (x : Value), css.flatten[j]? = some x → cs2[j]? = some x ∨ ∃ k y z, x = .int k y ∧ cs2[j]? = some (.int k z)) →
    ∃ (ds2 : List (Int × Int)) (css2 : List (List Value)), css2.flatten = cs2 ∧ (∀ x ∈ css2, x.length = 2) ∧ ds2.length = ds.length ∧ DnLL C' (ds2.map dfC) css2
  | [], css, cs2, h, hl, hc => by
    simp only [List.map_nil, DnLL] at h
    subst h
    obtain rfl : cs2 = [] := List.eq_nil_of_length_eq_zero (by simpa using hl)
    exact ⟨[], [], rfl, by simp, rfl, by simp [DnLL]⟩
  | e :: es, css, cs2, h, hl, hc => by
    simp only [List.map_cons, DnLL] at h
    obtain ⟨u, us, rfl, h1, h2⟩ := h
    simp only [dfC, DnL] at h1
    obtain ⟨u1, us1, rfl, h11, u2, us2, rfl, h12, rfl⟩ := h1
    simp only [Dn] at h11 h12
    subst h11 h12
    match cs2, hl, hc with
    | x1 :: x2 :: cs2, hl, hc =>
      obtain ⟨es2, css2, g1, g2, g3, g5⟩ := bl_drows (C' := C') (cs2 := cs2) h2 (by simp only [List.flatten_cons, List.length_append, List.length_cons, List.length_nil] at hl; omega) (fun j x hx => by have := hc (j + 2) x (by simpa using hx); simpa using this)
      have q1 : ∃ a, x1 = .int .i64 a := by
        rcases hc 0 _ rfl with h | ⟨k, y, z, h3, h4⟩
        · exact ⟨e.1, by simpa using h⟩
        · injection h3 with h3; subst h3; exact ⟨z, by simpa using h4⟩
      have q2 : ∃ a, x2 = .int .i64 a := by
        rcases hc 1 _ rfl with h | ⟨k, y, z, h3, h4⟩
        · exact ⟨e.2, by simpa using h⟩
        · injection h3 with h3; subst h3; exact ⟨z, by simpa using h4⟩
      obtain ⟨T2, rfl⟩ := q1
      obtain ⟨K2, rfl⟩ := q2
      refine ⟨(T2, K2) :: es2, [.int .i64 T2, .int .i64 K2] :: css2, by simp [g1], ?_, by simp [g3], ?_⟩
      · intro x hx
        rcases List.mem_cons.1 hx with rfl | hx
        · rfl
        · exact g2 x hx
      · simp only [List.map_cons, DnLL]
        refine ⟨_, _, rfl, ?_, g5⟩
        simp only [dfC, DnL]
        exact ⟨_, _, rfl, by simp only [Dn], _, _, rfl, by simp only [Dn], rfl⟩
    | [], hl, _ => simp at hl
    | [_], hl, _ => simp at hl
theorem bl_dfs {C C' : Cx} (hs : ShpS C.S C.B C.w C'.w) (hB : C'.B = C.B) (hS : ∀ k, C.S k → C'.S k) {ds : List (Int × Int)} {u : Value} (h : Dn C (.sl true (ds.map dfC)) u) : ∃ ds2 : List (Int × Int), ds2.length = ds.length ∧ Dn C' (.sl true (ds2.map dfC)) u := by
  obtain ⟨A, c, css, sz, rfl, h2, h3, h4, h5, h6, h7⟩ := h.sl_e
  cases A with
  | none =>
    have := h4 rfl
    rw [List.map_eq_nil_iff] at this
    subst this
    exact ⟨[], rfl, Dn.sl_m (css := []) (sz := 0) h2 h3 (fun _ => rfl) (by simp) (by simp [DnLL]) (fun ad ha => by cases ha)⟩
  | some ad =>
    obtain ⟨h8, h9⟩ := h7 ad rfl
    obtain ⟨cs2, g1, g2, g3⟩ := bl_cells hs.s (ad := ad) css.flatten h9
    obtain ⟨es2, css2, k1, k2, k3, k5⟩ := bl_drows (C' := C') h6 g1 g3
    refine ⟨es2, k3, ?_⟩
    have e1 : (ds.map dfC).length = (es2.map dfC).length := by simp [k3]
    rw [e1] at h2 ⊢
    refine Dn.sl_m (sz := 2) h2 h3 (fun h => by cases h) k2 k5 (fun ad' ha => ?_)
    injection ha with ha
    subst ha
    refine ⟨fun hne => bl_sl hs hB hS (h8 fun h0 => hne ?_), fun j x hx => g2 j x (by rw [k1] at hx; exact hx)⟩
    rw [List.map_eq_nil_iff] at h0 ⊢
    subst h0
    exact List.eq_nil_of_length_eq_zero k3
/-- A net of so many parts. -/
structure NetA.Sh (n m : NetA) : Prop where
  s : n.s.length = m.s.length
  d : n.d.length = m.d.length
  b : ∀ x ∈ n.s, ∃ y ∈ m.s, x.b.length = y.b.length
def netCX (n : NetA) : List XV := [.p (.sl true (n.s.map (slC true))) (nl_sl _ _).sl, .p (.v (.int .i64 n.l)) (nlv _), .p (.sl true (n.d.map dfC)) (nl_df _).sl]
theorem bl_net {C C' : Cx} (hs : ShpS C.S C.B C.w C'.w) (hB : C'.B = C.B) (hS : ∀ k, C.S k → C'.S k) {n : NetA} {us : List Value} (h : DnL C (XV.denL (netCX n)) us) : ∃ m : NetA, m.Sh n ∧ DnL C' (XV.denL (netCX m)) us := by
  simp only [netCX, XV.denL, XV.den, DnL] at h
  obtain ⟨u1, us1, rfl, h1, u2, us2, rfl, h2, u3, us3, rfl, h3, rfl⟩ := h
  obtain ⟨s2, g1, g2, g3⟩ := bl_sls hs hB hS h1
  obtain ⟨d2, g4, g5⟩ := bl_dfs hs hB hS h3
  refine ⟨⟨s2, n.l, d2⟩, ⟨g1, g4, g2⟩, ?_⟩
  simp only [netCX, XV.denL, XV.den, DnL]
  refine ⟨_, _, rfl, g3, _, _, rfl, ?_, _, _, rfl, g5, rfl⟩
  simp only [Dn] at h2 ⊢
  exact h2
theorem sz_spoil {n : NetA} (h : n.Sz) : SpL Try.prog 19 [netT true true true n] := spoil_S (by have := h.s; omega) (by have := h.d; omega) (fun e he => by have := h.b e he; omega)
theorem NetA.Sh.sz {n m : NetA} (h : n.Sh m) (hm : m.Sz) : n.Sz := ⟨by rw [h.s]; exact hm.s, by rw [h.d]; exact hm.d, fun x hx => by obtain ⟨y, hy, e⟩ := h.b x hx; rw [e]; exact hm.b y hy⟩
/-- All pairs in their order. -/
def allP : List (Int × Int) := (List.range 64).map fun i => (((i / 8 : Nat) : Int) + 1, ((i % 8 : Nat) : Int) + 1)
def hearB (d : List (Int × Int)) (f t : Int) (is : Bool) (x : Int × Int) : Bool := if x = (f, t) then !is else decide (x ∈ d)
def hearL (d : List (Int × Int)) (f t : Int) (is : Bool) (k : Nat) : List (Int × Int) := (allP.take k).filter (hearB d f t is)
theorem allP_o : allP.Pairwise fun x y => dk x < dk y := by decide +kernel
theorem allP_len : allP.length = 64 := rfl
theorem allP_at {k : Nat} (h : k < 64) : allP[k]? = some (((k / 8 : Nat) : Int) + 1, ((k % 8 : Nat) : Int) + 1) := by
  unfold allP
  rw [List.getElem?_map, List.getElem?_range h]
  rfl
theorem hearL_s {d : List (Int × Int)} {f t : Int} {is : Bool} {k : Nat} (h : k < 64) : hearL d f t is (k + 1) = if hearB d f t is (((k / 8 : Nat) : Int) + 1, ((k % 8 : Nat) : Int) + 1) = true then hearL d f t is k ++ [(((k / 8 : Nat) : Int) + 1, ((k % 8 : Nat) : Int) + 1)] else hearL d f t is k := by
  unfold hearL
  have h1 := allP_at h
  obtain ⟨hl, he⟩ := List.getElem?_eq_some_iff.1 h1
  rw [List.take_succ_eq_append_getElem hl, List.filter_append, he, List.filter_cons, List.filter_nil]
  by_cases hb : hearB d f t is (((k / 8 : Nat) : Int) + 1, ((k % 8 : Nat) : Int) + 1) = true
  · rw [if_pos hb, if_pos hb]
  · rw [if_neg hb, if_neg hb, List.append_nil]
theorem rise_ext {α : Type} {key : α → Int} {a b : List α} (ha : a.Pairwise fun x y => key x < key y) (hb : b.Pairwise fun x y => key x < key y) (h : ∀ x, x ∈ a ↔ x ∈ b) : a = b := by
  induction a generalizing b with
  | nil =>
    cases b with
    | nil => rfl
    | cons y b => exact absurd ((h y).2 (by simp)) (by simp)
  | cons x a ih =>
    cases b with
    | nil => exact absurd ((h x).1 (by simp)) (by simp)
    | cons y b =>
      have hxa := (List.pairwise_cons.1 ha).1
      have hyb := (List.pairwise_cons.1 hb).1
      have hxy : x = y := by
        rcases List.mem_cons.1 ((h x).1 (by simp)) with h1 | h1
        · exact h1
        · rcases List.mem_cons.1 ((h y).2 (by simp)) with h2 | h2
          · exact h2.symm
          · have := hyb x h1; have := hxa y h2; omega
      subst hxy
      congr 1
      refine ih (List.pairwise_cons.1 ha).2 (List.pairwise_cons.1 hb).2 fun z => ⟨fun hz => ?_, fun hz => ?_⟩
      · rcases List.mem_cons.1 ((h z).1 (List.mem_cons_of_mem _ hz)) with h1 | h1
        · subst h1; have := hxa z hz; omega
        · exact h1
      · rcases List.mem_cons.1 ((h z).2 (List.mem_cons_of_mem _ hz)) with h1 | h1
        · subst h1; have := hyb z hz; omega
        · exact h1
theorem allP_mem {x : Int × Int} (h : pkB x.1 x.2 0 = true) : x ∈ allP := by
  have := pkB_iff.1 h
  obtain ⟨a, b⟩ := x
  simp only at this
  have h1 := allP_at (k := ((a - 1) * 8 + (b - 1)).toNat) (by omega)
  have e1 : ((((a - 1) * 8 + (b - 1)).toNat / 8 : Nat) : Int) + 1 = a := by omega
  have e2 : ((((a - 1) * 8 + (b - 1)).toNat % 8 : Nat) : Int) + 1 = b := by omega
  rw [e1, e2] at h1
  exact List.mem_of_getElem? h1
theorem hear_mem {d : List (Int × Int)} {f t : Int} {is : Bool} (hd : WayD d) (hp : pkB f t 0 = true) {x : Int × Int} : x ∈ hearL d f t is 64 ↔ hearB d f t is x = true := by
  unfold hearL
  rw [List.take_of_length_le (by rw [allP_len]; omega), List.mem_filter]
  refine ⟨fun h => h.2, fun h => ⟨?_, h⟩⟩
  unfold hearB at h
  split at h
  · rename_i e; subst e; exact allP_mem hp
  · exact allP_mem (hd.w x (by simpa using h))
theorem hear_o {d : List (Int × Int)} {f t : Int} {is : Bool} : (hearL d f t is 64).Pairwise fun x y => dk x < dk y := (allP_o.sublist (List.take_sublist _ _)).sublist List.filter_sublist
theorem hear_ins {d : List (Int × Int)} {f t : Int} (hd : WayD d) (hp : pkB f t 0 = true) (hn : (f, t) ∉ d) : hearL d f t false 64 = insD d (f, t) := by
  refine rise_ext (key := dk) hear_o (insD_way (x := (f, t)) hd hp hn).o fun x => ?_
  rw [hear_mem hd hp, insD_mem]
  unfold hearB
  by_cases e : x = (f, t) <;> simp [e]
theorem hear_del {d : List (Int × Int)} {f t : Int} (hd : WayD d) (hp : pkB f t 0 = true) (hn : (f, t) ∈ d) : hearL d f t true 64 = delD d (f, t) := by
  refine rise_ext (key := dk) hear_o (delD_way (x := (f, t)) hd).o fun x => ?_
  rw [hear_mem hd hp, delD_mem hd hn]
  unfold hearB
  by_cases e : x = (f, t) <;> simp [e]
theorem hearL_len (d : List (Int × Int)) (f t : Int) (is : Bool) (k : Nat) : (hearL d f t is k).length ≤ 64 := by
  unfold hearL
  have := (List.filter_sublist (l := allP.take k) (p := hearB d f t is)).length_le
  rw [List.length_take, allP_len] at this
  omega
theorem hear_sz {n : NetA} (hn : n.Sz) (f t : Int) (is : Bool) (k : Nat) : (⟨n.s, n.l, hearL n.d f t is k⟩ : NetA).Sz := ⟨hn.s, by have := hearL_len n.d f t is k; show (hearL n.d f t is k).length ≤ 100000; omega, hn.b⟩
theorem net0_sz : net0.Sz := net0_ok.sz
theorem hear_st {d : List (Int × Int)} {f t : Int} {is : Bool} {a b : Nat} (ha : a < 8) (hb : b < 8) (h : hearB d f t is ((a : Int) + 1, (b : Int) + 1) = true) : (hearL d f t is (8 * a + (b + 1))).map dfC = (hearL d f t is (8 * a + b)).map dfC ++ [[.v (.int .i64 ((a : Int) + 1)), .v (.int .i64 ((b : Int) + 1))]] := by
  rw [show 8 * a + (b + 1) = (8 * a + b) + 1 by omega, hearL_s (by omega), show (8 * a + b) / 8 = a by omega, show (8 * a + b) % 8 = b by omega, if_pos h, List.map_append]
  rfl
theorem hear_sf {d : List (Int × Int)} {f t : Int} {is : Bool} {a b : Nat} (ha : a < 8) (hb : b < 8) (h : hearB d f t is ((a : Int) + 1, (b : Int) + 1) = false) : (hearL d f t is (8 * a + (b + 1))).map dfC = (hearL d f t is (8 * a + b)).map dfC := by
  rw [show 8 * a + (b + 1) = (8 * a + b) + 1 by omega, hearL_s (by omega), show (8 * a + b) / 8 = a by omega, show (8 * a + b) % 8 = b by omega, if_neg (by rw [h]; simp)]
theorem hearB_in {d : List (Int × Int)} {f t : Int} {is : Bool} {x y : Int} (h1 : x = f) (h2 : y = t) : hearB d f t is (x, y) = !is := by subst h1 h2; simp [hearB]
theorem hearB_out {d : List (Int × Int)} {f t : Int} {is : Bool} {x y : Int} (h : ¬ (x = f ∧ y = t)) : hearB d f t is (x, y) = decide ((x, y) ∈ d) := by
  unfold hearB; rw [if_neg (by simp only [Prod.mk.injEq]; exact h)]
theorem bl1 {h : List XLB} {e : Env} {j : Nat} {t0 : TypeId} {n : NetA} (hn : n.Sz) (hi : hget h j = .cells t0 (netCX n)) (C C' : Cx) (hs : ShpS C.S C.B C.w C'.w) (hB : C'.B = C.B) (hS : ∀ k, C.S k → C'.S k) (us : Nat → List Value) (xs : Nat → Value) (hd : ∀ i t cs, hget h i = .cells t cs → DnL C (XV.denL cs) (us i)) (hx : ∀ p ∈ ([] : List (Nat × (NetA → XV))), Dn C (look e p.1).den (xs p.1)) :
    ∃ y : NetA, y.Sz ∧ (∀ i V t cs, dsL [(j, netCX)] i = some V → hget h i = .cells t cs → DnL C' (XV.denL (V y)) (us i)) ∧ ∀ p ∈ ([] : List (Nat × (NetA → XV))), Dn C' (p.2 y).den (xs p.1) := by
  obtain ⟨m, hm, hm2⟩ := bl_net hs hB hS (hd j _ _ hi)
  refine ⟨m, hm.sz hn, fun i V t cs h1 h2 => ?_, fun p hp => by simp at hp⟩
  simp only [dsL] at h1
  cases hb : Nat.beq j i with
  | true =>
    rw [hb] at h1
    injection h1 with h1
    subst h1
    rw [← Nat.eq_of_beq_eq_true hb]; exact hm2
  | false => rw [hb] at h1; cases h1
/-- What the document asks of a slot. -/
def okS (s : List Sl) (j : Nat) (x : Sl) : Prop := 0 ≤ x.a ∧ lastA s j < x.a ∧ x.a < 80 ∧ pkB x.f x.t x.b.length = true
def okD (d : List (Int × Int)) (j : Nat) (x : Int × Int) : Prop := pkB x.1 x.2 0 = true ∧ ∀ i p, j = i + 1 → d[i]? = some p → dk p < dk x
theorem right_iff {n : NetA} : rightB n = true ↔ (0 ≤ n.l ∧ n.l < 80) ∧ (∀ j x, n.s[j]? = some x → okS n.s j x) ∧ ∀ j x, n.d[j]? = some x → okD n.d j x := by
  constructor
  · intro h
    obtain ⟨h1, h2, h3⟩ := right_parts h
    refine ⟨by simpa [lastB] using h1, fun j x hx => ?_, fun j x hx => ⟨(h3 j x hx).1, fun i p hj hp => ?_⟩⟩
    · have h4 := lastA_ge (s := n.s) (j := j) (fun i x _ hx => (h2 i x hx).1) (by have := (List.getElem?_eq_some_iff.1 hx).1; omega)
      have := h2 j x hx
      exact ⟨by omega, this⟩
    · subst hj
      have h4 := (h3 (i + 1) x hx).2
      simp only [prevOk, hp, decide_eq_true_eq] at h4
      exact (ordN_dk (h3 i p hp).1 (h3 (i + 1) x hx).1).1.1 h4
  · rintro ⟨h1, h2, h3⟩
    refine chkD_all (chkS_all (by simpa [lastB] using h1) fun j x _ hx => (h2 j x hx).2) fun j x _ hx => ⟨(h3 j x hx).1, ?_⟩
    cases j with
    | zero => rfl
    | succ i =>
      cases hp : n.d[i]? with
      | none => simp only [prevOk, hp]
      | some p =>
        simp only [prevOk, hp, decide_eq_true_eq]
        exact (ordN_dk (h3 i p hp).1 (h3 (i + 1) x hx).1).1.2 ((h3 (i + 1) x hx).2 i p rfl hp)
end Go.Proofs.Ytmhmldpccccjbaa

namespace Go.Proofs.Ytmhmldpccccjbaa
open Go.RowKit
set_option linter.unusedVariables false
set_option linter.unusedSimpArgs false
set_option maxRecDepth 20000
set_option maxRecDepth 20000 in
theorem pair_X (a b : Int) : XMeets Try.prog 15 [.v (.int .i64 a), .v (.int .i64 b)] (.p (.v (.bool (pkB a b 0))) (nlv _)) := by
  refine XMeets.of_X tabX_ok (avs := [.p (.v (.int .i64 a)) (nlv _), .p (.v (.int .i64 b)) (nlv _)]) [(0, .p (.v (.int .i64 a)) (nlv _)), (1, .p (.v (.int .i64 b)) (nlv _))] (by kernel_rfl) Try.func15 rfl (by simp [PuL, Pu]) (rfl) rfl rfl ?_
  intro B w0
  conv => whnf
  cases hc1 : (decide (1 ≤ a))
  · skip
    try simp only [bls] at hc1
    conv => whnf
    refine FinG.mk none ?_ (by rintro _ ⟨⟩)
    simp only [outs, List.length_map, List.length_append, List.length_take, List.length_drop, List.length_cons, List.length_nil, slC, dfC, netX, net0, List.map_nil, mix_len, pkX, slX, sl0, delS]
    simp_all [pkB, nodeB]; omega
  · skip
    try simp only [bls] at hc1
    conv => whnf
    cases hc2 : (decide (a ≤ 8))
    · skip
      try simp only [bls] at hc2
      conv => whnf
      refine FinG.mk none ?_ (by rintro _ ⟨⟩)
      simp only [outs, List.length_map, List.length_append, List.length_take, List.length_drop, List.length_cons, List.length_nil, slC, dfC, netX, net0, List.map_nil, mix_len, pkX, slX, sl0, delS]
      simp_all [pkB, nodeB]; omega
    · skip
      try simp only [bls] at hc2
      conv => whnf
      cases hc3 : (decide (1 ≤ b))
      · skip
        try simp only [bls] at hc3
        conv => whnf
        refine FinG.mk none ?_ (by rintro _ ⟨⟩)
        simp only [outs, List.length_map, List.length_append, List.length_take, List.length_drop, List.length_cons, List.length_nil, slC, dfC, netX, net0, List.map_nil, mix_len, pkX, slX, sl0, delS]
        simp_all [pkB, nodeB]; omega
      · skip
        try simp only [bls] at hc3
        conv => whnf
        cases hc4 : (decide (b ≤ 8))
        · skip
          try simp only [bls] at hc4
          conv => whnf
          refine FinG.mk none ?_ (by rintro _ ⟨⟩)
          simp only [outs, List.length_map, List.length_append, List.length_take, List.length_drop, List.length_cons, List.length_nil, slC, dfC, netX, net0, List.map_nil, mix_len, pkX, slX, sl0, delS]
          simp_all [pkB, nodeB]; omega
        · skip
          try simp only [bls] at hc4
          conv => whnf
          refine FinG.mk none ?_ (by rintro _ ⟨⟩)
          simp only [outs, List.length_map, List.length_append, List.length_take, List.length_drop, List.length_cons, List.length_nil, slC, dfC, netX, net0, List.map_nil, mix_len, pkX, slX, sl0, delS]
          simp_all [pkB, nodeB]
set_option maxRecDepth 20000 in
theorem rpk_X (c : Bool) (f t : Int) (l : List Int) : XMeets Try.prog 43 [.agg [.v (.int .i64 f), .v (.int .i64 t), .sl c (l.map by1)]] (.p (.v (.bool (pkB f t l.length))) (nlv _)) := by
  refine XMeets.of_X tabX_ok (avs := [.ag [.p (.v (.int .i64 f)) (nlv _), .p (.v (.int .i64 t)) (nlv _), .p (.sl false (l.map by1)) (nl_by1 _).sl]]) [(0, .ag [.p (.v (.int .i64 f)) (nlv _), .p (.v (.int .i64 t)) (nlv _), .p (.sl false (l.map by1)) (nl_by1 _).sl])] (by kernel_rfl) Try.func43 rfl (by simp [PuL, Pu, netT, slC, dfC, pu_by1, pu_sl, pu_df]) (by simp only [untagL, untag, netT, untag_by1, untag_sl, untag_df]; rfl) rfl rfl ?_
  intro B w0
  conv => whnf
  refine .ct ?_
  conv => whnf
  refine CallG.mk (pair_X _ _) rfl ?_
  conv => whnf
  cases hc1 : (pkB f t 0)
  · skip
    try simp only [bls] at hc1
    conv => whnf
    refine FinG.mk none ?_ (by rintro _ ⟨⟩)
    simp only [outs, List.length_map, List.length_append, List.length_take, List.length_drop, List.length_cons, List.length_nil, slC, dfC, netX, net0, List.map_nil, mix_len, pkX, slX, sl0, delS]
    simp_all [pkB]
  · skip
    try simp only [bls] at hc1
    conv => whnf
    refine FinG.mk none ?_ (by rintro _ ⟨⟩)
    simp only [outs, List.length_map, List.length_append, List.length_take, List.length_drop, List.length_cons, List.length_nil, slC, dfC, netX, net0, List.map_nil, mix_len, pkX, slX, sl0, delS]
    simp_all [pkB]; omega
set_option maxRecDepth 20000 in
theorem deaf_X (b c e : Bool) (n : NetA) (f t : Int) (hd : n.d.length ≤ 100000) : XMeets Try.prog 16 [netT b c e n, .v (.int .i64 f), .v (.int .i64 t)] (.p (.v (.bool (decide ((f, t) ∈ n.d)))) (nlv _)) := by
  refine XMeets.of_X tabX_ok (avs := [.ag [.p (.sl false (n.s.map (slC false))) (nl_sl _ _).sl, .p (.v (.int .i64 n.l)) (nlv _), .p (.sl false (n.d.map dfC)) (nl_df _).sl], .p (.v (.int .i64 f)) (nlv _), .p (.v (.int .i64 t)) (nlv _)]) [(0, .ag [.p (.sl false (n.s.map (slC false))) (nl_sl _ _).sl, .p (.v (.int .i64 n.l)) (nlv _), .p (.sl false (n.d.map dfC)) (nl_df _).sl]), (1, .p (.v (.int .i64 f)) (nlv _)), (2, .p (.v (.int .i64 t)) (nlv _))] (by kernel_rfl) Try.func16 rfl (by simp [PuL, Pu, netT, slC, dfC, pu_by1, pu_sl, pu_df]) (by simp only [untagL, untag, netT, untag_by1, untag_sl, untag_df]; rfl) rfl rfl ?_
  intro B w0
  conv => whnf
  refine XT.loop tabX_ok (Y := Nat) [6, 8, 12, 13, 14, 15, 16, 17, 18, 19, 20, 21, 22, 23, 24, 25, 26] (fun k => [(12, .p (.v (.int .i64 ((k : Int)))) (nlv _))]) (fun k => []) (fun k => k ≤ n.d.length ∧ ∀ j, j < k → n.d[j]? ≠ some (f, t)) (fun k => n.d.length - k) 0 ⟨Nat.zero_le _, fun j hj => by omega⟩ ?_ ?_
  · skip
    refine ⟨?_, ?_, ?_⟩
    · skip
      repeat ((conv => whnf); first | exact True.intro | refine ⟨.rfl, ?_⟩ | refine ⟨.any, ?_⟩ | refine ⟨.nil, ?_⟩ | refine ⟨.int (by first | rfl | omega | (simp only [wrs]; omega)), ?_⟩)
    · skip
      repeat (first | exact LeVs.nil | ((conv => whnf); first | exact True.intro | exact .none | exact .row rfl | refine .cells ?_ | refine ⟨_, _, rfl, .rfl, ?_⟩ | refine ⟨_, _, rfl, .any, ?_⟩ | refine ⟨_, _, rfl, .nil, ?_⟩ | refine ⟨_, _, rfl, .int (by first | rfl | omega | (simp only [wrs]; omega)), ?_⟩ | refine ⟨?_, ?_⟩))
    · skip
      repeat (first | exact LeFr.nil | ((conv => whnf); first | exact True.intro | refine ⟨.rfl, ?_⟩ | refine ⟨_, _, rfl, rfl, ?_, ?_⟩))
  · skip
    rintro k ⟨hk, h1⟩
    conv => whnf
    cases hc1 : (decide ((↑k : Int) < (↑(List.map dfC n.d).length : Int)))
    · skip
      try simp only [bls] at hc1
      conv => whnf
      refine FinG.mk none ?_ (by rintro _ ⟨⟩)
      simp only [outs, List.length_map, List.length_append, List.length_take, List.length_drop, List.length_cons, List.length_nil, slC, dfC, netX, net0, List.map_nil, mix_len, pkX, slX, sl0, delS]
      rw [decide_eq_false (fun hm => by obtain ⟨j, hj, he⟩ := List.getElem_of_mem hm; exact h1 j (by omega) (by rw [List.getElem?_eq_getElem hj, he]))]
    · skip
      try simp only [bls] at hc1
      conv => whnf
      refine IdxG.map _ rfl (by first | omega | (simp only [List.length_map] at *; omega)) ?_; intro y hy hny
      conv => whnf
      refine ⟨rfl, ?_⟩
      conv => whnf
      cases hc2 : (decide (y.fst = f))
      · skip
        try simp only [bls] at hc2
        conv => whnf
        refine ⟨(k + 1), ⟨by omega, ixD_step (x := (f, t)) hy (by simp_all [eq_comm]; done) h1⟩, (by omega), ?_⟩
        refine ⟨?_, ?_, ?_⟩
        · skip
          repeat ((conv => whnf); first | exact True.intro | refine ⟨.rfl, ?_⟩ | refine ⟨.any, ?_⟩ | refine ⟨.nil, ?_⟩ | refine ⟨.int (by first | rfl | omega | (simp only [wrs]; omega)), ?_⟩)
        · skip
          repeat (first | exact LeVs.nil | ((conv => whnf); first | exact True.intro | exact .none | exact .row rfl | refine .cells ?_ | refine ⟨_, _, rfl, .rfl, ?_⟩ | refine ⟨_, _, rfl, .any, ?_⟩ | refine ⟨_, _, rfl, .nil, ?_⟩ | refine ⟨_, _, rfl, .int (by first | rfl | omega | (simp only [wrs]; omega)), ?_⟩ | refine ⟨?_, ?_⟩))
        · skip
          repeat (first | exact LeFr.nil | ((conv => whnf); first | exact True.intro | refine ⟨.rfl, ?_⟩ | refine ⟨_, _, rfl, rfl, ?_, ?_⟩))
      · skip
        try simp only [bls] at hc2
        conv => whnf
        cases hc3 : (decide (y.snd = t))
        · skip
          try simp only [bls] at hc3
          conv => whnf
          refine ⟨(k + 1), ⟨by omega, ixD_step (x := (f, t)) hy (by simp_all [eq_comm]; done) h1⟩, (by omega), ?_⟩
          refine ⟨?_, ?_, ?_⟩
          · skip
            repeat ((conv => whnf); first | exact True.intro | refine ⟨.rfl, ?_⟩ | refine ⟨.any, ?_⟩ | refine ⟨.nil, ?_⟩ | refine ⟨.int (by first | rfl | omega | (simp only [wrs]; omega)), ?_⟩)
          · skip
            repeat (first | exact LeVs.nil | ((conv => whnf); first | exact True.intro | exact .none | exact .row rfl | refine .cells ?_ | refine ⟨_, _, rfl, .rfl, ?_⟩ | refine ⟨_, _, rfl, .any, ?_⟩ | refine ⟨_, _, rfl, .nil, ?_⟩ | refine ⟨_, _, rfl, .int (by first | rfl | omega | (simp only [wrs]; omega)), ?_⟩ | refine ⟨?_, ?_⟩))
          · skip
            repeat (first | exact LeFr.nil | ((conv => whnf); first | exact True.intro | refine ⟨.rfl, ?_⟩ | refine ⟨_, _, rfl, rfl, ?_, ?_⟩))
        · skip
          try simp only [bls] at hc3
          conv => whnf
          refine FinG.mk none ?_ (by rintro _ ⟨⟩)
          simp only [outs, List.length_map, List.length_append, List.length_take, List.length_drop, List.length_cons, List.length_nil, slC, dfC, netX, net0, List.map_nil, mix_len, pkX, slX, sl0, delS]
          rw [decide_eq_true (show (f, t) ∈ n.d from (show y = (f, t) from Prod.ext (by assumption) (by assumption)) ▸ List.mem_of_getElem? hy)]
theorem right_no_l {n : NetA} (h : ¬ (0 ≤ n.l ∧ n.l < 80)) : rightB n = false := by
  cases hr : rightB n with
  | false => rfl
  | true => exact absurd (right_iff.1 hr).1 h
theorem right_no_s {n : NetA} {k : Nat} {y : Sl} (hy : n.s[k]? = some y) (h : ¬ okS n.s k y) : rightB n = false := by
  cases hr : rightB n with
  | false => rfl
  | true => exact absurd ((right_iff.1 hr).2.1 k y hy) h
theorem right_no_d {n : NetA} {k : Nat} {y : Int × Int} (hy : n.d[k]? = some y) (h : ¬ okD n.d k y) : rightB n = false := by
  cases hr : rightB n with
  | false => rfl
  | true => exact absurd ((right_iff.1 hr).2.2 k y hy) h
theorem lastA_p {s : List Sl} {k : Nat} {p : Sl} (hk : 0 < k) (hp : s[k - 1]? = some p) : lastA s k = p.a := by
  obtain ⟨j, rfl⟩ : ∃ j, k = j + 1 := ⟨k - 1, by omega⟩
  exact lastA_s (by simpa using hp)
theorem lastA_0 {s : List Sl} {k : Nat} (hk : ¬ 0 < k) : lastA s k = -1 := by
  obtain rfl : k = 0 := by omega
  rfl
theorem okS_step {s : List Sl} {k : Nat} {y : Sl} (hy : s[k]? = some y) (h1 : ∀ j x, j < k → s[j]? = some x → okS s j x) (h : okS s k y) : ∀ j x, j < k + 1 → s[j]? = some x → okS s j x := fun j x hj hx => by
  rcases Nat.lt_or_ge j k with h2 | h2
  · exact h1 j x h2 hx
  · obtain rfl : j = k := by omega
    rw [hy] at hx; injection hx with hx; subst hx; exact h
theorem okD_step {s : List (Int × Int)} {k : Nat} {y : Int × Int} (hy : s[k]? = some y) (h1 : ∀ j x, j < k → s[j]? = some x → okD s j x) (h : okD s k y) : ∀ j x, j < k + 1 → s[j]? = some x → okD s j x := fun j x hj hx => by
  rcases Nat.lt_or_ge j k with h2 | h2
  · exact h1 j x h2 hx
  · obtain rfl : j = k := by omega
    rw [hy] at hx; injection hx with hx; subst hx; exact h
theorem okD_p {s : List (Int × Int)} {k : Nat} {p z : Int × Int} (hp : s[k - 1]? = some p) (hz : pkB z.1 z.2 0 = true) (h : dk p < dk z) : okD s k z := ⟨hz, fun i q hi hq => by
  subst hi
  rw [show i + 1 - 1 = i by omega, hq] at hp
  injection hp with hp
  subst hp; exact h⟩
theorem okD_0 {s : List (Int × Int)} {k : Nat} {z : Int × Int} (hk : ¬ 0 < k) (hz : pkB z.1 z.2 0 = true) : okD s k z := ⟨hz, fun i q hi => by omega⟩
theorem okD_np {s : List (Int × Int)} {k : Nat} {p z : Int × Int} (hk : 0 < k) (hp : s[k - 1]? = some p) (h : ¬ dk p < dk z) : ¬ okD s k z := fun h2 => h (h2.2 (k - 1) p (by omega) hp)
theorem right_all {n : NetA} {k k2 : Nat} (h0 : 0 ≤ n.l ∧ n.l < 80) (hk : n.s.length ≤ k) (hk2 : n.d.length ≤ k2) (h1 : ∀ j x, j < k → n.s[j]? = some x → okS n.s j x) (h2 : ∀ j x, j < k2 → n.d[j]? = some x → okD n.d j x) : rightB n = true :=
  right_iff.2 ⟨h0, fun j x hx => h1 j x (by have := (List.getElem?_eq_some_iff.1 hx).1; omega) hx, fun j x hx => h2 j x (by have := (List.getElem?_eq_some_iff.1 hx).1; omega) hx⟩
set_option maxRecDepth 20000 in
theorem right_X (b c e : Bool) (n : NetA) (ho : n.Ok) : XMeets Try.prog 14 [netT b c e n] (.p (.v (.bool (rightB n))) (nlv _)) := by
  refine XMeets.of_X tabX_ok (avs := [.ag [.p (.sl false (n.s.map (slC false))) (nl_sl _ _).sl, .p (.v (.int .i64 n.l)) (nlv _), .p (.sl false (n.d.map dfC)) (nl_df _).sl]]) [(0, .ag [.p (.sl false (n.s.map (slC false))) (nl_sl _ _).sl, .p (.v (.int .i64 n.l)) (nlv _), .p (.sl false (n.d.map dfC)) (nl_df _).sl])] (by kernel_rfl) Try.func14 rfl (by simp [PuL, Pu, netT, slC, dfC, pu_by1, pu_sl, pu_df]) (by simp only [untagL, untag, netT, untag_by1, untag_sl, untag_df]; rfl) rfl rfl ?_
  intro B w0
  have hsn := ho.sn
  have hdn := ho.dn
  conv => whnf
  cases hc1 : (decide (n.l < 0))
  · skip
    try simp only [bls] at hc1
    conv => whnf
    cases hc2 : (decide (80 ≤ n.l))
    · skip
      try simp only [bls] at hc2
      conv => whnf
      refine XT.loop tabX_ok (Y := Nat) [2, 3, 4, 18, 19, 20, 21, 22, 23, 24, 25, 26, 27, 28, 29, 30, 31, 32, 33, 34, 35, 36, 37, 38, 39, 40, 41, 42, 43, 44, 45, 46, 47, 48, 49, 50, 51, 52, 53] (fun k => [(18, .p (.v (.int .i64 ((k : Int)))) (nlv _))]) (fun k => []) (fun k => k ≤ n.s.length ∧ ∀ j x, j < k → n.s[j]? = some x → okS n.s j x) (fun k => n.s.length - k) 0 ⟨Nat.zero_le _, fun j x hj => by omega⟩ ?_ ?_
      · skip
        refine ⟨?_, ?_, ?_⟩
        · skip
          repeat ((conv => whnf); first | exact True.intro | refine ⟨.rfl, ?_⟩ | refine ⟨.any, ?_⟩ | refine ⟨.nil, ?_⟩ | refine ⟨.int (by first | rfl | omega | (simp only [wrs]; omega)), ?_⟩)
        · skip
          repeat (first | exact LeVs.nil | ((conv => whnf); first | exact True.intro | exact .none | exact .row rfl | refine .cells ?_ | refine ⟨_, _, rfl, .rfl, ?_⟩ | refine ⟨_, _, rfl, .any, ?_⟩ | refine ⟨_, _, rfl, .nil, ?_⟩ | refine ⟨_, _, rfl, .int (by first | rfl | omega | (simp only [wrs]; omega)), ?_⟩ | refine ⟨?_, ?_⟩))
        · skip
          repeat (first | exact LeFr.nil | ((conv => whnf); first | exact True.intro | refine ⟨.rfl, ?_⟩ | refine ⟨_, _, rfl, rfl, ?_, ?_⟩))
      · skip
        rintro k ⟨hk, h1⟩
        conv => whnf
        cases hc3 : (decide ((↑k : Int) < (↑(List.map (slC false) n.s).length : Int)))
        · skip
          try simp only [bls] at hc3
          conv => whnf
          refine XT.loop tabX_ok (Y := Nat) [2, 5, 6, 57, 58, 59, 60, 61, 62, 63, 64, 65, 66, 67, 68, 69, 70, 71, 72, 73, 74, 75, 76, 77, 78, 79, 80, 81, 82, 83, 84, 85, 86, 87, 88, 89, 90, 91, 92, 93, 94, 95, 96, 97] (fun k2 => [(57, .p (.v (.int .i64 ((k2 : Int)))) (nlv _))]) (fun k2 => []) (fun k2 => k2 ≤ n.d.length ∧ ∀ j x, j < k2 → n.d[j]? = some x → okD n.d j x) (fun k2 => n.d.length - k2) 0 ⟨Nat.zero_le _, fun j x hj => by omega⟩ ?_ ?_
          · skip
            refine ⟨?_, ?_, ?_⟩
            · skip
              repeat ((conv => whnf); first | exact True.intro | refine ⟨.rfl, ?_⟩ | refine ⟨.any, ?_⟩ | refine ⟨.nil, ?_⟩ | refine ⟨.int (by first | rfl | omega | (simp only [wrs]; omega)), ?_⟩)
            · skip
              repeat (first | exact LeVs.nil | ((conv => whnf); first | exact True.intro | exact .none | exact .row rfl | refine .cells ?_ | refine ⟨_, _, rfl, .rfl, ?_⟩ | refine ⟨_, _, rfl, .any, ?_⟩ | refine ⟨_, _, rfl, .nil, ?_⟩ | refine ⟨_, _, rfl, .int (by first | rfl | omega | (simp only [wrs]; omega)), ?_⟩ | refine ⟨?_, ?_⟩))
            · skip
              repeat (first | exact LeFr.nil | ((conv => whnf); first | exact True.intro | refine ⟨.rfl, ?_⟩ | refine ⟨_, _, rfl, rfl, ?_, ?_⟩))
          · skip
            rintro k2 ⟨hk2, h2⟩
            conv => whnf
            cases hc4 : (decide ((↑k2 : Int) < (↑(List.map dfC n.d).length : Int)))
            · skip
              try simp only [bls] at hc4
              conv => whnf
              refine FinG.mk none ?_ (by rintro _ ⟨⟩)
              simp only [outs, List.length_map, List.length_append, List.length_take, List.length_drop, List.length_cons, List.length_nil, slC, dfC, netX, net0, List.map_nil, mix_len, pkX, slX, sl0, delS]
              rw [right_all (by omega) (by omega) (by omega) h1 h2]
            · skip
              try simp only [bls] at hc4
              conv => whnf
              refine IdxG.map k2 rfl (by first | omega | (simp only [List.length_map] at *; omega)) ?_; intro z hz hnz
              conv => whnf
              refine ⟨rfl, ?_⟩
              conv => whnf
              refine RegG.par 35 (by kernel_rfl) ?_
              conv => whnf
              refine CallG.mk (pair_X _ _) rfl ?_
              conv => whnf
              cases hc5 : (pkB z.fst z.snd 0)
              · skip
                try simp only [bls] at hc5
                conv => whnf
                refine FinG.mk none ?_ (by rintro _ ⟨⟩)
                simp only [outs, List.length_map, List.length_append, List.length_take, List.length_drop, List.length_cons, List.length_nil, slC, dfC, netX, net0, List.map_nil, mix_len, pkX, slX, sl0, delS]
                rw [right_no_d hz (fun h => by have h8 := h.1; simp_all; done)]
              · skip
                try simp only [bls] at hc5
                conv => whnf
                cases hc6 : (decide (0 < (↑k2 : Int)))
                · skip
                  try simp only [bls] at hc6
                  conv => whnf
                  refine ⟨(k2 + 1), ⟨by omega, okD_step hz h2 (okD_0 (by omega) (by assumption))⟩, (by omega), ?_⟩
                  refine ⟨?_, ?_, ?_⟩
                  · skip
                    repeat ((conv => whnf); first | exact True.intro | refine ⟨.rfl, ?_⟩ | refine ⟨.any, ?_⟩ | refine ⟨.nil, ?_⟩ | refine ⟨.int (by first | rfl | omega | (simp only [wrs]; omega)), ?_⟩)
                  · skip
                    repeat (first | exact LeVs.nil | ((conv => whnf); first | exact True.intro | exact .none | exact .row rfl | refine .cells ?_ | refine ⟨_, _, rfl, .rfl, ?_⟩ | refine ⟨_, _, rfl, .any, ?_⟩ | refine ⟨_, _, rfl, .nil, ?_⟩ | refine ⟨_, _, rfl, .int (by first | rfl | omega | (simp only [wrs]; omega)), ?_⟩ | refine ⟨?_, ?_⟩))
                  · skip
                    repeat (first | exact LeFr.nil | ((conv => whnf); first | exact True.intro | refine ⟨.rfl, ?_⟩ | refine ⟨_, _, rfl, rfl, ?_, ?_⟩))
                · skip
                  try simp only [bls] at hc6
                  conv => whnf
                  rw [show IntKind.i64.wrap ((↑k2 : Int) - 1) = ((↑k2 : Int) - 1) from wz.1 _ (by omega) (by omega)]
                  refine IdxG.map (k2 - 1) (by omega) (by omega) ?_; intro p hp hnp; have hzk := pkB_iff.1 (show pkB z.1 z.2 0 = true by assumption); have hpk := pkB_iff.1 (h2 (k2 - 1) p (by omega) hp).1; have hz1 := hzk.1; have hz2 := hzk.2.1; have hp1 := hpk.1; have hp2 := hpk.2.1
                  conv => whnf
                  refine ⟨rfl, ?_⟩
                  conv => whnf
                  rw [show IntKind.i64.wrap ((↑k2 : Int) - 1) = ((↑k2 : Int) - 1) from wz.1 _ (by omega) (by omega)]
                  refine IdxG.mk (show (n.d.map dfC)[k2 - 1]? = some (dfC p) from by rw [List.getElem?_map, hp]; rfl) (by omega) ?_
                  conv => whnf
                  refine ⟨rfl, ?_⟩
                  conv => whnf
                  cases hc7 : (decide (IntKind.i64.wrap (IntKind.i64.wrap (10 * z.fst) + z.snd) ≤ IntKind.i64.wrap (IntKind.i64.wrap (10 * p.fst) + p.snd)))
                  · skip
                    try simp only [bls] at hc7
                    try simp (disch := omega) only [wz, Int.reduceAdd, Int.reduceSub, Int.reduceMul, Int.reduceNeg, Int.zero_add, Int.add_zero, Int.sub_zero, Int.sub_self] at hc7
                    conv => whnf
                    refine ⟨(k2 + 1), ⟨by omega, okD_step hz h2 (okD_p hp (by assumption) (by unfold dk; omega))⟩, (by omega), ?_⟩
                    refine ⟨?_, ?_, ?_⟩
                    · skip
                      repeat ((conv => whnf); first | exact True.intro | refine ⟨.rfl, ?_⟩ | refine ⟨.any, ?_⟩ | refine ⟨.nil, ?_⟩ | refine ⟨.int (by first | rfl | omega | (simp only [wrs]; omega)), ?_⟩)
                    · skip
                      repeat (first | exact LeVs.nil | ((conv => whnf); first | exact True.intro | exact .none | exact .row rfl | refine .cells ?_ | refine ⟨_, _, rfl, .rfl, ?_⟩ | refine ⟨_, _, rfl, .any, ?_⟩ | refine ⟨_, _, rfl, .nil, ?_⟩ | refine ⟨_, _, rfl, .int (by first | rfl | omega | (simp only [wrs]; omega)), ?_⟩ | refine ⟨?_, ?_⟩))
                    · skip
                      repeat (first | exact LeFr.nil | ((conv => whnf); first | exact True.intro | refine ⟨.rfl, ?_⟩ | refine ⟨_, _, rfl, rfl, ?_, ?_⟩))
                  · skip
                    try simp only [bls] at hc7
                    try simp (disch := omega) only [wz, Int.reduceAdd, Int.reduceSub, Int.reduceMul, Int.reduceNeg, Int.zero_add, Int.add_zero, Int.sub_zero, Int.sub_self] at hc7
                    conv => whnf
                    refine FinG.mk none ?_ (by rintro _ ⟨⟩)
                    simp only [outs, List.length_map, List.length_append, List.length_take, List.length_drop, List.length_cons, List.length_nil, slC, dfC, netX, net0, List.map_nil, mix_len, pkX, slX, sl0, delS]
                    rw [right_no_d hz (okD_np (by omega) hp (by unfold dk; omega))]
        · skip
          try simp only [bls] at hc3
          conv => whnf
          refine IdxG.map k rfl (by first | omega | (simp only [List.length_map] at *; omega)) ?_; intro y hy hny; have hyo := (ho.s y (List.mem_of_getElem? hy)).a; have hyo0 := hyo.1; have hyo1 := hyo.2
          conv => whnf
          refine ⟨rfl, ?_⟩
          conv => whnf
          refine RegG.par 30 (by kernel_rfl) ?_
          conv => whnf
          cases hc8 : (decide (y.a < 0))
          · skip
            try simp only [bls] at hc8
            conv => whnf
            cases hc9 : (decide (80 ≤ y.a))
            · skip
              try simp only [bls] at hc9
              conv => whnf
              cases hc10 : (decide (0 < (↑k : Int)))
              · skip
                try simp only [bls] at hc10
                conv => whnf
                refine CallG.mk (rpk_X _ _ _ _) rfl ?_
                conv => whnf
                cases hc11 : (pkB y.f y.t y.b.length)
                · skip
                  try simp only [bls] at hc11
                  conv => whnf
                  refine FinG.mk none ?_ (by rintro _ ⟨⟩)
                  simp only [outs, List.length_map, List.length_append, List.length_take, List.length_drop, List.length_cons, List.length_nil, slC, dfC, netX, net0, List.map_nil, mix_len, pkX, slX, sl0, delS]
                  rw [right_no_s hy (fun h => by have h8 := h.2.2.2; simp_all; done)]
                · skip
                  try simp only [bls] at hc11
                  conv => whnf
                  refine ⟨(k + 1), ⟨by omega, okS_step hy h1 ⟨by omega, by rw [lastA_0 (by omega)]; omega, by omega, by simp_all; done⟩⟩, (by omega), ?_⟩
                  refine ⟨?_, ?_, ?_⟩
                  · skip
                    repeat ((conv => whnf); first | exact True.intro | refine ⟨.rfl, ?_⟩ | refine ⟨.any, ?_⟩ | refine ⟨.nil, ?_⟩ | refine ⟨.int (by first | rfl | omega | (simp only [wrs]; omega)), ?_⟩)
                  · skip
                    repeat (first | exact LeVs.nil | ((conv => whnf); first | exact True.intro | exact .none | exact .row rfl | refine .cells ?_ | refine ⟨_, _, rfl, .rfl, ?_⟩ | refine ⟨_, _, rfl, .any, ?_⟩ | refine ⟨_, _, rfl, .nil, ?_⟩ | refine ⟨_, _, rfl, .int (by first | rfl | omega | (simp only [wrs]; omega)), ?_⟩ | refine ⟨?_, ?_⟩))
                  · skip
                    repeat (first | exact LeFr.nil | ((conv => whnf); first | exact True.intro | refine ⟨.rfl, ?_⟩ | refine ⟨_, _, rfl, rfl, ?_, ?_⟩))
              · skip
                try simp only [bls] at hc10
                conv => whnf
                rw [show IntKind.i64.wrap ((↑k : Int) - 1) = ((↑k : Int) - 1) from wz.1 _ (by omega) (by omega)]
                refine IdxG.map (k - 1) (by omega) (by omega) ?_; intro p hp hnp; have hpo := (ho.s p (List.mem_of_getElem? hp)).a; have hpo0 := hpo.1; have hpo1 := hpo.2
                conv => whnf
                refine ⟨rfl, ?_⟩
                conv => whnf
                cases hc12 : (decide (y.a ≤ p.a))
                · skip
                  try simp only [bls] at hc12
                  conv => whnf
                  refine CallG.mk (rpk_X _ _ _ _) rfl ?_
                  conv => whnf
                  cases hc13 : (pkB y.f y.t y.b.length)
                  · skip
                    try simp only [bls] at hc13
                    conv => whnf
                    refine FinG.mk none ?_ (by rintro _ ⟨⟩)
                    simp only [outs, List.length_map, List.length_append, List.length_take, List.length_drop, List.length_cons, List.length_nil, slC, dfC, netX, net0, List.map_nil, mix_len, pkX, slX, sl0, delS]
                    rw [right_no_s hy (fun h => by have h8 := h.2.2.2; simp_all; done)]
                  · skip
                    try simp only [bls] at hc13
                    conv => whnf
                    refine ⟨(k + 1), ⟨by omega, okS_step hy h1 ⟨by omega, by rw [lastA_p (by omega) hp]; omega, by omega, by simp_all; done⟩⟩, (by omega), ?_⟩
                    refine ⟨?_, ?_, ?_⟩
                    · skip
                      repeat ((conv => whnf); first | exact True.intro | refine ⟨.rfl, ?_⟩ | refine ⟨.any, ?_⟩ | refine ⟨.nil, ?_⟩ | refine ⟨.int (by first | rfl | omega | (simp only [wrs]; omega)), ?_⟩)
                    · skip
                      repeat (first | exact LeVs.nil | ((conv => whnf); first | exact True.intro | exact .none | exact .row rfl | refine .cells ?_ | refine ⟨_, _, rfl, .rfl, ?_⟩ | refine ⟨_, _, rfl, .any, ?_⟩ | refine ⟨_, _, rfl, .nil, ?_⟩ | refine ⟨_, _, rfl, .int (by first | rfl | omega | (simp only [wrs]; omega)), ?_⟩ | refine ⟨?_, ?_⟩))
                    · skip
                      repeat (first | exact LeFr.nil | ((conv => whnf); first | exact True.intro | refine ⟨.rfl, ?_⟩ | refine ⟨_, _, rfl, rfl, ?_, ?_⟩))
                · skip
                  try simp only [bls] at hc12
                  conv => whnf
                  refine FinG.mk none ?_ (by rintro _ ⟨⟩)
                  simp only [outs, List.length_map, List.length_append, List.length_take, List.length_drop, List.length_cons, List.length_nil, slC, dfC, netX, net0, List.map_nil, mix_len, pkX, slX, sl0, delS]
                  rw [right_no_s hy (fun h => by have h8 := h.2.1; rw [lastA_p (by omega) hp] at h8; omega)]
            · skip
              try simp only [bls] at hc9
              conv => whnf
              refine FinG.mk none ?_ (by rintro _ ⟨⟩)
              simp only [outs, List.length_map, List.length_append, List.length_take, List.length_drop, List.length_cons, List.length_nil, slC, dfC, netX, net0, List.map_nil, mix_len, pkX, slX, sl0, delS]
              rw [right_no_s hy (fun h => by have h8 := h.1; have h9 := h.2.2.1; omega)]
          · skip
            try simp only [bls] at hc8
            conv => whnf
            refine FinG.mk none ?_ (by rintro _ ⟨⟩)
            simp only [outs, List.length_map, List.length_append, List.length_take, List.length_drop, List.length_cons, List.length_nil, slC, dfC, netX, net0, List.map_nil, mix_len, pkX, slX, sl0, delS]
            rw [right_no_s hy (fun h => by have h8 := h.1; have h9 := h.2.2.1; omega)]
    · skip
      try simp only [bls] at hc2
      conv => whnf
      refine FinG.mk none ?_ (by rintro _ ⟨⟩)
      simp only [outs, List.length_map, List.length_append, List.length_take, List.length_drop, List.length_cons, List.length_nil, slC, dfC, netX, net0, List.map_nil, mix_len, pkX, slX, sl0, delS]
      rw [right_no_l (by omega)]
  · skip
    try simp only [bls] at hc1
    conv => whnf
    refine FinG.mk none ?_ (by rintro _ ⟨⟩)
    simp only [outs, List.length_map, List.length_append, List.length_take, List.length_drop, List.length_cons, List.length_nil, slC, dfC, netX, net0, List.map_nil, mix_len, pkX, slX, sl0, delS]
    rw [right_no_l (by omega)]
set_option maxRecDepth 20000 in
theorem same6_X (c c2 c3 e e2 e3 : Bool) (n m : NetA) (hn : n.Sz) (hm : m.Sz) : XMeets Try.prog 18 [netT c c2 c3 n, netT e e2 e3 m] (.p (.v (.bool (decide (n = m)))) (nlv _)) := by
  refine XMeets.of_X tabX_ok (avs := [.ag [.p (.sl false (n.s.map (slC false))) (nl_sl _ _).sl, .p (.v (.int .i64 n.l)) (nlv _), .p (.sl false (n.d.map dfC)) (nl_df _).sl], .ag [.p (.sl false (m.s.map (slC false))) (nl_sl _ _).sl, .p (.v (.int .i64 m.l)) (nlv _), .p (.sl false (m.d.map dfC)) (nl_df _).sl]]) [(0, .ag [.p (.sl false (n.s.map (slC false))) (nl_sl _ _).sl, .p (.v (.int .i64 n.l)) (nlv _), .p (.sl false (n.d.map dfC)) (nl_df _).sl]), (1, .ag [.p (.sl false (m.s.map (slC false))) (nl_sl _ _).sl, .p (.v (.int .i64 m.l)) (nlv _), .p (.sl false (m.d.map dfC)) (nl_df _).sl])] (by kernel_rfl) Try.func18 rfl (by simp [PuL, Pu, netT, slC, dfC, pu_by1, pu_sl, pu_df]) (by simp only [untagL, untag, netT, untag_by1, untag_sl, untag_df]; rfl) rfl rfl ?_
  intro B w0
  have hn1 := hn.s
  have hn2 := hn.d
  have hn3 := hn.b
  have hm1 := hm.s
  have hm2 := hm.d
  have hm3 := hm.b
  conv => whnf
  cases hc1 : (decide (n.l = m.l))
  · skip
    try simp only [bls] at hc1
    conv => whnf
    refine FinG.mk none ?_ (by rintro _ ⟨⟩)
    simp only [outs, List.length_map, List.length_append, List.length_take, List.length_drop, List.length_cons, List.length_nil, slC, dfC, netX, net0, List.map_nil, mix_len, pkX, slX, sl0, delS]
    rw [decide_eq_false (fun e => by have h8 := congrArg NetA.l e; omega)]
  · skip
    try simp only [bls] at hc1
    conv => whnf
    cases hc2 : (decide ((↑(List.map (slC false) n.s).length : Int) = (↑(List.map (slC false) m.s).length : Int)))
    · skip
      try simp only [bls] at hc2
      conv => whnf
      refine FinG.mk none ?_ (by rintro _ ⟨⟩)
      simp only [outs, List.length_map, List.length_append, List.length_take, List.length_drop, List.length_cons, List.length_nil, slC, dfC, netX, net0, List.map_nil, mix_len, pkX, slX, sl0, delS]
      rw [decide_eq_false (fun e => ne_len (by omega) (congrArg NetA.s e))]
    · skip
      try simp only [bls] at hc2
      conv => whnf
      cases hc3 : (decide ((↑(List.map dfC n.d).length : Int) = (↑(List.map dfC m.d).length : Int)))
      · skip
        try simp only [bls] at hc3
        conv => whnf
        refine FinG.mk none ?_ (by rintro _ ⟨⟩)
        simp only [outs, List.length_map, List.length_append, List.length_take, List.length_drop, List.length_cons, List.length_nil, slC, dfC, netX, net0, List.map_nil, mix_len, pkX, slX, sl0, delS]
        rw [decide_eq_false (fun e => ne_len (by omega) (congrArg NetA.d e))]
      · skip
        try simp only [bls] at hc3
        conv => whnf
        refine XT.loop tabX_ok (Y := Nat) [4, 5, 33, 34, 35, 36, 37, 38, 39, 40, 41, 42, 43, 44, 45, 46, 47, 48] (fun k => [(33, .p (.v (.int .i64 ((k : Int)))) (nlv _))]) (fun k => []) (fun k => k ≤ n.s.length ∧ ∀ j, j < k → n.s[j]? = m.s[j]?) (fun k => n.s.length - k) 0 ⟨Nat.zero_le _, fun j hj => by omega⟩ ?_ ?_
        · skip
          refine ⟨?_, ?_, ?_⟩
          · skip
            repeat ((conv => whnf); first | exact True.intro | refine ⟨.rfl, ?_⟩ | refine ⟨.any, ?_⟩ | refine ⟨.nil, ?_⟩ | refine ⟨.int (by first | rfl | omega | (simp only [wrs]; omega)), ?_⟩)
          · skip
            repeat (first | exact LeVs.nil | ((conv => whnf); first | exact True.intro | exact .none | exact .row rfl | refine .cells ?_ | refine ⟨_, _, rfl, .rfl, ?_⟩ | refine ⟨_, _, rfl, .any, ?_⟩ | refine ⟨_, _, rfl, .nil, ?_⟩ | refine ⟨_, _, rfl, .int (by first | rfl | omega | (simp only [wrs]; omega)), ?_⟩ | refine ⟨?_, ?_⟩))
          · skip
            repeat (first | exact LeFr.nil | ((conv => whnf); first | exact True.intro | refine ⟨.rfl, ?_⟩ | refine ⟨_, _, rfl, rfl, ?_, ?_⟩))
        · skip
          rintro k ⟨hk, h1⟩
          conv => whnf
          cases hc4 : (decide ((↑k : Int) < (↑(List.map (slC false) n.s).length : Int)))
          · skip
            try simp only [bls] at hc4
            conv => whnf
            refine XT.loop tabX_ok (Y := Nat) [4, 6, 52, 53, 54, 55, 56, 57, 58, 59, 60, 61, 62, 63, 64, 65, 66] (fun k2 => [(52, .p (.v (.int .i64 ((k2 : Int)))) (nlv _))]) (fun k2 => []) (fun k2 => k2 ≤ n.d.length ∧ ∀ j, j < k2 → n.d[j]? = m.d[j]?) (fun k2 => n.d.length - k2) 0 ⟨Nat.zero_le _, fun j hj => by omega⟩ ?_ ?_
            · skip
              refine ⟨?_, ?_, ?_⟩
              · skip
                repeat ((conv => whnf); first | exact True.intro | refine ⟨.rfl, ?_⟩ | refine ⟨.any, ?_⟩ | refine ⟨.nil, ?_⟩ | refine ⟨.int (by first | rfl | omega | (simp only [wrs]; omega)), ?_⟩)
              · skip
                repeat (first | exact LeVs.nil | ((conv => whnf); first | exact True.intro | exact .none | exact .row rfl | refine .cells ?_ | refine ⟨_, _, rfl, .rfl, ?_⟩ | refine ⟨_, _, rfl, .any, ?_⟩ | refine ⟨_, _, rfl, .nil, ?_⟩ | refine ⟨_, _, rfl, .int (by first | rfl | omega | (simp only [wrs]; omega)), ?_⟩ | refine ⟨?_, ?_⟩))
              · skip
                repeat (first | exact LeFr.nil | ((conv => whnf); first | exact True.intro | refine ⟨.rfl, ?_⟩ | refine ⟨_, _, rfl, rfl, ?_, ?_⟩))
            · skip
              rintro k2 ⟨hk2, h2⟩
              conv => whnf
              cases hc5 : (decide ((↑k2 : Int) < (↑(List.map dfC n.d).length : Int)))
              · skip
                try simp only [bls] at hc5
                conv => whnf
                refine FinG.mk none ?_ (by rintro _ ⟨⟩)
                simp only [outs, List.length_map, List.length_append, List.length_take, List.length_drop, List.length_cons, List.length_nil, slC, dfC, netX, net0, List.map_nil, mix_len, pkX, slX, sl0, delS]
                rw [decide_eq_true (net_eq.2 ⟨by omega, eq_of_at (by omega) (by omega) h2, eq_of_at (by omega) (by omega) h1⟩)]
              · skip
                try simp only [bls] at hc5
                conv => whnf
                refine RegG.par 11 (by kernel_rfl) ?_
                conv => whnf
                refine IdxG.map (l := n.d) _ rfl (by first | omega | (simp only [List.length_map] at *; omega)) ?_; intro u hu hnu
                conv => whnf
                refine ⟨rfl, ?_⟩
                conv => whnf
                refine IdxG.map (l := m.d) _ rfl (by first | omega | (simp only [List.length_map] at *; omega)) ?_; intro v hv hnv
                conv => whnf
                refine ⟨rfl, ?_⟩
                conv => whnf
                refine BinG.mk rfl rfl (neDf_run _ _ _ _ _ _) ?_
                conv => whnf
                cases hc6 : ((decide (u.fst = v.fst) && decide (u.snd = v.snd)))
                · skip
                  try simp only [bls] at hc6
                  conv => whnf
                  refine FinG.mk none ?_ (by rintro _ ⟨⟩)
                  simp only [outs, List.length_map, List.length_append, List.length_take, List.length_drop, List.length_cons, List.length_nil, slC, dfC, netX, net0, List.map_nil, mix_len, pkX, slX, sl0, delS]
                  rw [decide_eq_false (fun e => ne_at hu hv (pair_ne (by simp_all; done)) (congrArg NetA.d e))]
                · skip
                  try simp only [bls] at hc6
                  conv => whnf
                  refine ⟨(k2 + 1), ⟨by omega, at_step hu hv (pair_eq (by simp_all; done)) h2⟩, (by omega), ?_⟩
                  refine ⟨?_, ?_, ?_⟩
                  · skip
                    repeat ((conv => whnf); first | exact True.intro | refine ⟨.rfl, ?_⟩ | refine ⟨.any, ?_⟩ | refine ⟨.nil, ?_⟩ | refine ⟨.int (by first | rfl | omega | (simp only [wrs]; omega)), ?_⟩)
                  · skip
                    repeat (first | exact LeVs.nil | ((conv => whnf); first | exact True.intro | exact .none | exact .row rfl | refine .cells ?_ | refine ⟨_, _, rfl, .rfl, ?_⟩ | refine ⟨_, _, rfl, .any, ?_⟩ | refine ⟨_, _, rfl, .nil, ?_⟩ | refine ⟨_, _, rfl, .int (by first | rfl | omega | (simp only [wrs]; omega)), ?_⟩ | refine ⟨?_, ?_⟩))
                  · skip
                    repeat (first | exact LeFr.nil | ((conv => whnf); first | exact True.intro | refine ⟨.rfl, ?_⟩ | refine ⟨_, _, rfl, rfl, ?_, ?_⟩))
          · skip
            try simp only [bls] at hc4
            conv => whnf
            refine RegG.par 12 (by kernel_rfl) ?_
            conv => whnf
            refine IdxG.map (l := n.s) _ rfl (by first | omega | (simp only [List.length_map] at *; omega)) ?_; intro x hx hnx; have hb_ := hn3 x (List.mem_of_getElem? hx)
            conv => whnf
            refine ⟨rfl, ?_⟩
            conv => whnf
            refine IdxG.map (l := m.s) _ rfl (by first | omega | (simp only [List.length_map] at *; omega)) ?_; intro y hy hny; have hb_2 := hm3 y (List.mem_of_getElem? hy)
            conv => whnf
            refine ⟨rfl, ?_⟩
            conv => whnf
            refine CallG.mk (sameSlot_X _ _ _ _ (by first | assumption | omega) (by first | assumption | omega)) rfl ?_
            conv => whnf
            cases hc7 : (decide (x = y))
            · skip
              try simp only [bls] at hc7
              conv => whnf
              refine FinG.mk none ?_ (by rintro _ ⟨⟩)
              simp only [outs, List.length_map, List.length_append, List.length_take, List.length_drop, List.length_cons, List.length_nil, slC, dfC, netX, net0, List.map_nil, mix_len, pkX, slX, sl0, delS]
              rw [decide_eq_false (fun e => ne_at hx hy (by assumption) (congrArg NetA.s e))]
            · skip
              try simp only [bls] at hc7
              conv => whnf
              refine ⟨(k + 1), ⟨by omega, at_step hx hy (by assumption) h1⟩, (by omega), ?_⟩
              refine ⟨?_, ?_, ?_⟩
              · skip
                repeat ((conv => whnf); first | exact True.intro | refine ⟨.rfl, ?_⟩ | refine ⟨.any, ?_⟩ | refine ⟨.nil, ?_⟩ | refine ⟨.int (by first | rfl | omega | (simp only [wrs]; omega)), ?_⟩)
              · skip
                repeat (first | exact LeVs.nil | ((conv => whnf); first | exact True.intro | exact .none | exact .row rfl | refine .cells ?_ | refine ⟨_, _, rfl, .rfl, ?_⟩ | refine ⟨_, _, rfl, .any, ?_⟩ | refine ⟨_, _, rfl, .nil, ?_⟩ | refine ⟨_, _, rfl, .int (by first | rfl | omega | (simp only [wrs]; omega)), ?_⟩ | refine ⟨?_, ?_⟩))
              · skip
                repeat (first | exact LeFr.nil | ((conv => whnf); first | exact True.intro | refine ⟨.rfl, ?_⟩ | refine ⟨_, _, rfl, rfl, ?_, ?_⟩))
theorem nl_net (n : NetA) : NlL [.sl false (n.s.map (slC false)), .v (.int .i64 n.l), .sl false (n.d.map dfC)] := .cons (nl_sl _ _).sl (.cons (nlv _) (.cons (nl_df _).sl .nil))
theorem notF {b : Bool} (h : b = true) : (!b) = false := by rw [h]; rfl
theorem hear_bd (d : List (Int × Int)) (f t : Int) (is : Bool) (k : Nat) : (((hearL d f t is k).map dfC).length + 1) * 16 ≤ 140737488355328 := by
  have h1 : (hearL d f t is k).length ≤ 64 := by
    unfold hearL
    refine Nat.le_trans (List.length_filter_le _ _) ?_
    rw [List.length_take, allP_len]; omega
  rw [List.length_map]; omega
theorem part_t {n : NetA} {f t : Int} (hr : rightB n = true) (hp : pkB f t 0 = true) (hm : (f, t) ∉ n.d) : partN n f t = (⟨n.s, n.l, hearL n.d f t false 64⟩, 0) := by
  rw [part_eq hr hp, if_neg hm, hear_ins (right_D hr) hp hm]
theorem mend_t {n : NetA} {f t : Int} (hr : rightB n = true) (hp : pkB f t 0 = true) (hm : (f, t) ∈ n.d) : mendN n f t = (⟨n.s, n.l, hearL n.d f t true 64⟩, 0) := by
  rw [mend_eq hr hp, if_pos hm, hear_del (right_D hr) hp hm]
theorem part_x {n : NetA} {f t : Int} (hr : rightB n = true) (hp : pkB f t 0 = true) (hm : (f, t) ∈ n.d) : partN n f t = (net0, 5) := by rw [part_eq hr hp, if_pos hm]
theorem mend_x {n : NetA} {f t : Int} (hr : rightB n = true) (hp : pkB f t 0 = true) (hm : (f, t) ∉ n.d) : mendN n f t = (net0, 4) := by rw [mend_eq hr hp, if_neg hm]
theorem part_p {n : NetA} {f t : Int} (hr : rightB n = true) (hp : pkB f t 0 = false) : partN n f t = (net0, 2) := by unfold partN; rw [if_pos hr, if_neg (by simp [hp])]
theorem mend_p {n : NetA} {f t : Int} (hr : rightB n = true) (hp : pkB f t 0 = false) : mendN n f t = (net0, 2) := by unfold mendN; rw [if_pos hr, if_neg (by simp [hp])]
theorem part_r {n : NetA} {f t : Int} (hr : rightB n = false) : partN n f t = (net0, 330) := by unfold partN; rw [if_neg (by simp [hr])]
theorem mend_r {n : NetA} {f t : Int} (hr : rightB n = false) : mendN n f t = (net0, 330) := by unfold mendN; rw [if_neg (by simp [hr])]
set_option maxHeartbeats 4000000 in
set_option maxRecDepth 20000 in
theorem lHears_X (b c e g : Bool) (n0 : NetA) (ps : List (Int × Int)) (hn : n0.In) (hps : ps.length ≤ 9223372036854775807) : XMeets Try.prog 4 [netT b c e n0, .sl g (ps.map dfC)] (.p (.v (.bool (true))) (nlv _)) := by
  refine XMeets.of_XM [(8, .row 0)] tabX_ok (avs := [.ag [.p (.sl false (n0.s.map (slC false))) (nl_sl _ _).sl, .p (.v (.int .i64 n0.l)) (nlv _), .p (.sl false (n0.d.map dfC)) (nl_df _).sl], .p (.sl false (ps.map dfC)) (nl_df _).sl]) [(0, .ag [.p (.sl false (n0.s.map (slC false))) (nl_sl _ _).sl, .p (.v (.int .i64 n0.l)) (nlv _), .p (.sl false (n0.d.map dfC)) (nl_df _).sl]), (1, .p (.sl false (ps.map dfC)) (nl_df _).sl)] (by kernel_rfl) Try.func4 rfl (by simp [PuL, Pu, netT, slC, dfC, pu_by1, pu_sl, pu_df]) (by simp only [untagL, untag, netT, untag_by1, untag_sl, untag_df]; rfl) rfl rfl ?_
  intro B w0
  obtain ⟨n, hnn⟩ : ∃ n, fewN n0 = n := ⟨_, rfl⟩
  have ho : n.Ok := hnn ▸ few_ok hn
  have hsz := ho.sz
  have hdn := ho.dn
  conv => whnf
  refine .ct ?_
  conv => whnf
  refine CallG.mk (wakes_X) rfl ?_
  conv => whnf
  refine RegG.par 6 (by kernel_rfl) ?_
  conv => whnf
  refine CallG.mk ((few_X _ _ _ n0 hn).eq (by rw [hnn])) rfl ?_
  conv => whnf
  refine CallG.mk ((few_X _ _ _ n0 hn).eq (by rw [hnn])) rfl ?_
  conv => whnf
  refine XT.loop tabX_ok (Y := Nat) [0, 1, 2, 4, 7, 8, 9, 10, 11, 12, 13, 14, 15, 16, 19, 20, 21, 22, 25, 26, 27, 28, 29, 30, 31, 32, 33, 34, 35, 36, 37, 38, 39, 40, 41, 42, 43, 44, 45, 46, 47, 48, 49, 50, 51, 52, 53, 54, 55, 56, 57, 58, 59, 60, 61, 62, 63, 64, 65, 66, 67, 68, 69, 70, 71, 72, 73, 74, 75, 76, 77, 78, 79, 80, 81, 82, 83, 84, 85, 86, 87, 88, 89, 90, 91, 92, 93, 94, 95, 96, 97, 98, 99, 100, 101, 102, 103, 104, 105, 106, 107, 108] (fun k => [(25, .p (.v (.int .i64 ((k : Int)))) (nlv _))]) (fun k => []) (fun k => k ≤ ps.length) (fun k => ps.length - k) 0 (Nat.zero_le _) ?_ ?_
  · skip
    refine ⟨?_, ?_, ?_⟩
    · skip
      repeat ((conv => whnf); first | exact True.intro | refine ⟨.rfl, ?_⟩ | refine ⟨.any, ?_⟩ | refine ⟨.nil, ?_⟩ | refine ⟨.int (by first | rfl | omega | (simp only [wrs]; omega)), ?_⟩)
    · skip
      repeat (first | exact LeVs.nil | ((conv => whnf); first | exact True.intro | exact .none | exact .row rfl | refine .cells ?_ | refine ⟨_, _, rfl, .rfl, ?_⟩ | refine ⟨_, _, rfl, .any, ?_⟩ | refine ⟨_, _, rfl, .nil, ?_⟩ | refine ⟨_, _, rfl, .int (by first | rfl | omega | (simp only [wrs]; omega)), ?_⟩ | refine ⟨?_, ?_⟩))
      done
    · skip
      exact LeFr.same (by kernel_rfl)
  · skip
    rintro k hk
    conv => whnf
    refine bS (fun hc1 => ?_) (fun hc1 => ?_)
    · skip
      try simp only [bls] at hc1
      conv => whnf
      refine IdxG.map _ rfl (by first | omega | (simp only [List.length_map] at *; omega)) ?_; intro x hx hxn
      conv => whnf
      refine ⟨rfl, ?_⟩
      conv => whnf
      refine bS (fun hc2 => ?_) (fun hc2 => ?_)
      · skip
        try simp only [bls] at hc2
        conv => whnf
        refine FinG.mk none ?_ (by rintro _ ⟨⟩)
        simp only [outs, List.length_map, List.length_append, List.length_take, List.length_drop, List.length_cons, List.length_nil, slC, dfC, netX, net0, List.map_nil, mix_len, pkX, slX, sl0, delS]
      · skip
        try simp only [bls] at hc2
        conv => whnf
        refine XT.mark tabX_ok 8 [5, 6, 8, 23] ?_
        intro M w1 us
        refine ⟨[(5, .pin (us 5) (.eptr [.sl false (n.s.map (slC false)), .v (.int .i64 n.l), .sl false (n.d.map dfC)]) ((nl_net n).eptr)), (6, .pin (us 6) (.eptr [.sl false (n.s.map (slC false)), .v (.int .i64 n.l), .sl false (n.d.map dfC)]) ((nl_net n).eptr)), (8, .pin (us 8) (.eptr (dfC x)) (hxn.eptr)), (23, .pin (us 23) (.sl false (ps.map dfC)) ((nl_df _).sl))], ?_, ?_⟩
        · skip
          refine ⟨.pin rfl rfl (by simp [Pu, PuL, dfC, pu_sl, pu_df, pu_by1]) (by simp only [untag, untagL, dfC, untag_sl, untag_df, untag_by1]), ?_⟩
          refine ⟨.pin rfl rfl (by simp [Pu, PuL, dfC, pu_sl, pu_df, pu_by1]) (by simp only [untag, untagL, dfC, untag_sl, untag_df, untag_by1]), ?_⟩
          refine ⟨.pin rfl rfl (by simp [Pu, PuL, dfC, pu_sl, pu_df, pu_by1]) (by simp only [untag, untagL, dfC, untag_sl, untag_df, untag_by1]), ?_⟩
          refine ⟨.pin rfl rfl (by simp [Pu, PuL, dfC, pu_sl, pu_df, pu_by1]) (by simp only [untag, untagL, dfC, untag_sl, untag_df, untag_by1]), ?_⟩
          exact True.intro
        · skip
          intro hpins
          obtain ⟨hp5, hp6, hp8, hp23, -⟩ : PinOk M w1 (us 5) (.eptr [.sl false (n.s.map (slC false)), .v (.int .i64 n.l), .sl false (n.d.map dfC)]) ∧ PinOk M w1 (us 6) (.eptr [.sl false (n.s.map (slC false)), .v (.int .i64 n.l), .sl false (n.d.map dfC)]) ∧ PinOk M w1 (us 8) (.eptr (dfC x)) ∧ PinOk M w1 (us 23) (.sl false (ps.map dfC)) ∧ True := hpins
          conv => whnf
          refine ⟨by assumption, ?_⟩
          conv => whnf
          refine ⟨by assumption, ?_⟩
          conv => whnf
          refine ⟨_, rfl, ?_⟩
          conv => whnf
          refine ⟨by simp only [bls]; omega, ?_⟩
          conv => whnf
          refine ⟨by assumption, ?_⟩
          conv => whnf
          refine ⟨_, rfl, ?_⟩
          conv => whnf
          refine ⟨by simp only [bls]; omega, ?_⟩
          conv => whnf
          refine .ct ?_
          conv => whnf
          refine CallG.mk (part_X _ _ _ n _ _ ho _ rfl) rfl ?_
          conv => whnf
          refine ⟨by assumption, ?_⟩
          conv => whnf
          refine ⟨by assumption, ?_⟩
          conv => whnf
          refine ⟨_, rfl, ?_⟩
          conv => whnf
          refine ⟨by simp only [bls]; omega, ?_⟩
          conv => whnf
          refine ⟨by assumption, ?_⟩
          conv => whnf
          refine ⟨_, rfl, ?_⟩
          conv => whnf
          refine ⟨by simp only [bls]; omega, ?_⟩
          conv => whnf
          refine .ct ?_
          conv => whnf
          refine CallG.mk (mend_X _ _ _ n _ _ ho _ rfl) rfl ?_
          conv => whnf
          refine ⟨by assumption, ?_⟩
          conv => whnf
          refine .ct ?_
          conv => whnf
          refine CallG.mk (right_X _ _ _ n ho) rfl ?_
          conv => whnf
          refine bS (fun hc3 => ?_) (fun hc3 => ?_)
          · skip
            try simp only [bls] at hc3
            conv => whnf
            refine bF (notF (decide_eq_true (by rw [part_r (by assumption)]))) ?_
            conv => whnf
            refine bF (notF (decide_eq_true (by rw [part_r (by assumption)]))) ?_
            conv => whnf
            refine bF (notF (decide_eq_true (by rw [part_r (by assumption)]))) ?_
            conv => whnf
            refine bF (notF (decide_eq_true (by rw [part_r (by assumption)]))) ?_
            conv => whnf
            refine bF (notF (decide_eq_true (by rw [mend_r (by assumption)]))) ?_
            conv => whnf
            refine bF (notF (decide_eq_true (by rw [mend_r (by assumption)]))) ?_
            conv => whnf
            refine bF (notF (decide_eq_true (by rw [mend_r (by assumption)]))) ?_
            conv => whnf
            refine .ct ?_
            conv => whnf
            refine CallG.mk (same6_X _ _ _ true true true (partN n x.1 x.2).1 net0 (part_ok _ _ _).2 net0_sz) rfl ?_
            conv => whnf
            refine bF (notF (decide_eq_true (by rw [mend_r (by assumption)]))) ?_
            conv => whnf
            refine bF (notF (decide_eq_true (by rw [mend_r (by assumption)]))) ?_
            conv => whnf
            refine bF (notF (decide_eq_true (by rw [part_r (by assumption)]))) ?_
            conv => whnf
            refine bF (notF (decide_eq_true (by rw [part_r (by assumption)]))) ?_
            conv => whnf
            refine bF (notF (decide_eq_true (by rw [part_r (by assumption)]))) ?_
            conv => whnf
            refine .ct ?_
            conv => whnf
            refine CallG.mk (same6_X _ _ _ true true true (mendN n x.1 x.2).1 net0 (mend_ok _ _ _).2 net0_sz) rfl ?_
            conv => whnf
            refine bF (notF (decide_eq_true (by rw [part_r (by assumption)]))) ?_
            conv => whnf
            refine bF (notF (decide_eq_true (by rw [part_r (by assumption)]))) ?_
            conv => whnf
            refine bF (notF (decide_eq_true (by rw [mend_r (by assumption)]))) ?_
            conv => whnf
            refine .wr (WCall.spoilL [(1, netCX)] [] NetA.Sz (sz_spoil (part_ok n x.1 x.2).2) rfl rfl rfl (bl1 (mend_ok n x.1 x.2).2 rfl) ?_); intro y hy
            conv => whnf
            refine .wr (WCall.spoil (sz_spoil hy).sp rfl ?_)
            conv => whnf
            refine ⟨by assumption, ?_⟩
            conv => whnf
            refine ⟨by assumption, ?_⟩
            conv => whnf
            refine .ct ?_
            conv => whnf
            refine CallG.mk (same6_X _ _ _ _ _ _ n n hsz hsz) rfl ?_
            conv => whnf
            refine ⟨⟨⟨_, _, rfl⟩, rfl, ⟨_, _, rfl⟩, rfl, ⟨_, _, rfl⟩, rfl, ⟨_, _, rfl⟩, rfl, True.intro⟩, ?_⟩
            conv => whnf
            refine XT.of tabX_ok ?_
            conv => whnf
            refine bF (by simp [List.length_map, List.length_append, List.length_take, List.length_drop, List.length_cons, List.length_nil, slC, dfC, netX, net0, List.map_nil, mix_len, pkX, slX, sl0, delS]; done) ?_
            conv => whnf
            refine ⟨(k + 1), (by first | omega | (simp only [List.length_map] at *; omega)), (by first | omega | (simp only [List.length_map] at *; omega)), ?_⟩
            refine ⟨?_, ?_, ?_⟩
            · skip
              repeat ((conv => whnf); first | exact True.intro | refine ⟨.rfl, ?_⟩ | refine ⟨.any, ?_⟩ | refine ⟨.nil, ?_⟩ | refine ⟨.int (by first | rfl | omega | (simp only [wrs]; omega)), ?_⟩)
            · skip
              repeat (first | exact LeVs.nil | ((conv => whnf); first | exact True.intro | exact .none | exact .row rfl | refine .cells ?_ | refine ⟨_, _, rfl, .rfl, ?_⟩ | refine ⟨_, _, rfl, .any, ?_⟩ | refine ⟨_, _, rfl, .nil, ?_⟩ | refine ⟨_, _, rfl, .int (by first | rfl | omega | (simp only [wrs]; omega)), ?_⟩ | refine ⟨?_, ?_⟩))
              done
            · skip
              exact LeFr.same (by kernel_rfl)
          · skip
            try simp only [bls] at hc3
            conv => whnf
            refine ⟨by assumption, ?_⟩
            conv => whnf
            refine ⟨_, rfl, ?_⟩
            conv => whnf
            refine ⟨by simp only [bls]; omega, ?_⟩
            conv => whnf
            refine ⟨by assumption, ?_⟩
            conv => whnf
            refine ⟨_, rfl, ?_⟩
            conv => whnf
            refine ⟨by simp only [bls]; omega, ?_⟩
            conv => whnf
            refine .ct ?_
            conv => whnf
            refine CallG.mk (pair_X _ _) rfl ?_
            conv => whnf
            refine bS (fun hc4 => ?_) (fun hc4 => ?_)
            · skip
              try simp only [bls] at hc4
              conv => whnf
              refine bF (notF (decide_eq_true (by rw [part_p (by assumption) (by assumption)]))) ?_
              conv => whnf
              refine bF (notF (decide_eq_true (by rw [part_p (by assumption) (by assumption)]))) ?_
              conv => whnf
              refine bF (notF (decide_eq_true (by rw [part_p (by assumption) (by assumption)]))) ?_
              conv => whnf
              refine bF (notF (decide_eq_true (by rw [part_p (by assumption) (by assumption)]))) ?_
              conv => whnf
              refine bF (notF (decide_eq_true (by rw [mend_p (by assumption) (by assumption)]))) ?_
              conv => whnf
              refine bF (notF (decide_eq_true (by rw [mend_p (by assumption) (by assumption)]))) ?_
              conv => whnf
              refine bF (notF (decide_eq_true (by rw [mend_p (by assumption) (by assumption)]))) ?_
              conv => whnf
              refine .ct ?_
              conv => whnf
              refine CallG.mk (same6_X _ _ _ true true true (partN n x.1 x.2).1 net0 (part_ok _ _ _).2 net0_sz) rfl ?_
              conv => whnf
              refine bF (notF (decide_eq_true (by rw [mend_p (by assumption) (by assumption)]))) ?_
              conv => whnf
              refine bF (notF (decide_eq_true (by rw [mend_p (by assumption) (by assumption)]))) ?_
              conv => whnf
              refine bF (notF (decide_eq_true (by rw [part_p (by assumption) (by assumption)]))) ?_
              conv => whnf
              refine bF (notF (decide_eq_true (by rw [part_p (by assumption) (by assumption)]))) ?_
              conv => whnf
              refine bF (notF (decide_eq_true (by rw [part_p (by assumption) (by assumption)]))) ?_
              conv => whnf
              refine .ct ?_
              conv => whnf
              refine CallG.mk (same6_X _ _ _ true true true (mendN n x.1 x.2).1 net0 (mend_ok _ _ _).2 net0_sz) rfl ?_
              conv => whnf
              refine bF (notF (decide_eq_true (by rw [part_p (by assumption) (by assumption)]))) ?_
              conv => whnf
              refine bF (notF (decide_eq_true (by rw [part_p (by assumption) (by assumption)]))) ?_
              conv => whnf
              refine bF (notF (decide_eq_true (by rw [mend_p (by assumption) (by assumption)]))) ?_
              conv => whnf
              refine .wr (WCall.spoilL [(1, netCX)] [] NetA.Sz (sz_spoil (part_ok n x.1 x.2).2) rfl rfl rfl (bl1 (mend_ok n x.1 x.2).2 rfl) ?_); intro y hy
              conv => whnf
              refine .wr (WCall.spoil (sz_spoil hy).sp rfl ?_)
              conv => whnf
              refine ⟨by assumption, ?_⟩
              conv => whnf
              refine ⟨by assumption, ?_⟩
              conv => whnf
              refine .ct ?_
              conv => whnf
              refine CallG.mk (same6_X _ _ _ _ _ _ n n hsz hsz) rfl ?_
              conv => whnf
              refine ⟨⟨⟨_, _, rfl⟩, rfl, ⟨_, _, rfl⟩, rfl, ⟨_, _, rfl⟩, rfl, ⟨_, _, rfl⟩, rfl, True.intro⟩, ?_⟩
              conv => whnf
              refine XT.of tabX_ok ?_
              conv => whnf
              refine bF (by simp [List.length_map, List.length_append, List.length_take, List.length_drop, List.length_cons, List.length_nil, slC, dfC, netX, net0, List.map_nil, mix_len, pkX, slX, sl0, delS]; done) ?_
              conv => whnf
              refine ⟨(k + 1), (by first | omega | (simp only [List.length_map] at *; omega)), (by first | omega | (simp only [List.length_map] at *; omega)), ?_⟩
              refine ⟨?_, ?_, ?_⟩
              · skip
                repeat ((conv => whnf); first | exact True.intro | refine ⟨.rfl, ?_⟩ | refine ⟨.any, ?_⟩ | refine ⟨.nil, ?_⟩ | refine ⟨.int (by first | rfl | omega | (simp only [wrs]; omega)), ?_⟩)
              · skip
                repeat (first | exact LeVs.nil | ((conv => whnf); first | exact True.intro | exact .none | exact .row rfl | refine .cells ?_ | refine ⟨_, _, rfl, .rfl, ?_⟩ | refine ⟨_, _, rfl, .any, ?_⟩ | refine ⟨_, _, rfl, .nil, ?_⟩ | refine ⟨_, _, rfl, .int (by first | rfl | omega | (simp only [wrs]; omega)), ?_⟩ | refine ⟨?_, ?_⟩))
                done
              · skip
                exact LeFr.same (by kernel_rfl)
            · skip
              try simp only [bls] at hc4
              conv => whnf
              refine ⟨by assumption, ?_⟩
              conv => whnf
              refine ⟨by assumption, ?_⟩
              conv => whnf
              refine ⟨_, rfl, ?_⟩
              conv => whnf
              refine ⟨by simp only [bls]; omega, ?_⟩
              conv => whnf
              refine ⟨by assumption, ?_⟩
              conv => whnf
              refine ⟨_, rfl, ?_⟩
              conv => whnf
              refine ⟨by simp only [bls]; omega, ?_⟩
              conv => whnf
              refine .ct ?_
              conv => whnf
              refine CallG.mk (deaf_X _ _ _ n _ _ (by omega)) rfl ?_
              conv => whnf
              refine bS (fun hc5 => ?_) (fun hc5 => ?_)
              · skip
                try simp only [bls] at hc5
                conv => whnf
                refine ⟨by assumption, ?_⟩
                conv => whnf
                refine ⟨by assumption, ?_⟩
                conv => whnf
                refine ⟨_, rfl, ?_⟩
                conv => whnf
                refine ⟨by simp only [bls]; omega, ?_⟩
                conv => whnf
                refine ⟨by assumption, ?_⟩
                conv => whnf
                refine ⟨_, rfl, ?_⟩
                conv => whnf
                refine ⟨by simp only [bls]; omega, ?_⟩
                conv => whnf
                refine .inl ?_
                conv => whnf
                refine InlG.mk (by kernel_rfl) Try.func17 rfl (Nat.le_of_ble_eq_true rfl) (XT.of tabX_ok ?_)
                conv => whnf
                refine XT.nilr 9 77 2 rfl rfl ?_
                conv => whnf
                refine XT.tidy ?_
                conv => whnf
                refine XT.loop tabX_ok (Y := Nat) [9, 10, 11, 12, 13, 14, 15, 16, 17, 18, 19, 20, 21, 22, 23, 24, 25, 26, 27, 28, 29, 30, 31, 32, 33, 34, 35, 36, 37, 38, 39, 40, 41] (fun a => [(10, .p (.v (.int .i64 ((a : Int) + 1))) (nlv _)), (9, .row 6)]) (fun a => [(6, .row 77 2 ((hearL n.d x.1 x.2 true (8 * a)).map dfC) (nl_df _))]) (fun a => a ≤ 8) (fun a => 8 - a) 0 (Nat.zero_le _) ?_ ?_
                · skip
                  refine ⟨?_, ?_, ?_⟩
                  · skip
                    repeat ((conv => whnf); first | exact True.intro | refine ⟨.rfl, ?_⟩ | refine ⟨.any, ?_⟩ | refine ⟨.nil, ?_⟩ | refine ⟨.int (by first | rfl | omega | (simp only [wrs]; omega)), ?_⟩)
                  · skip
                    repeat (first | exact LeVs.nil | ((conv => whnf); first | exact True.intro | exact .none | exact .row rfl | refine .cells ?_ | refine ⟨_, _, rfl, .rfl, ?_⟩ | refine ⟨_, _, rfl, .any, ?_⟩ | refine ⟨_, _, rfl, .nil, ?_⟩ | refine ⟨_, _, rfl, .int (by first | rfl | omega | (simp only [wrs]; omega)), ?_⟩ | refine ⟨?_, ?_⟩))
                    done
                  · skip
                    exact LeFr.same (by kernel_rfl)
                · skip
                  rintro a ha
                  rcases Nat.lt_or_ge a 8 with ha8 | ha8
                  · skip
                    conv => whnf
                    refine bT (decide_eq_true (by omega)) ?_
                    conv => whnf
                    refine XT.loop tabX_ok (Y := Nat) [9, 11, 12, 17, 18, 19, 20, 21, 22, 23, 24, 25, 26, 27, 28, 29, 30, 31, 32, 33, 34, 35, 36, 37, 38, 39, 40, 41] (fun b => [(11, .p (.v (.int .i64 ((b : Int) + 1))) (nlv _)), (9, .row 6)]) (fun b => [(6, .row 77 2 ((hearL n.d x.1 x.2 true (8 * a + b)).map dfC) (nl_df _))]) (fun b => b ≤ 8) (fun b => 8 - b) 0 (Nat.zero_le _) ?_ ?_
                    · skip
                      refine ⟨?_, ?_, ?_⟩
                      · skip
                        repeat ((conv => whnf); first | exact True.intro | refine ⟨.rfl, ?_⟩ | refine ⟨.any, ?_⟩ | refine ⟨.nil, ?_⟩ | refine ⟨.int (by first | rfl | omega | (simp only [wrs]; omega)), ?_⟩)
                      · skip
                        repeat (first | exact LeVs.nil | ((conv => whnf); first | exact True.intro | exact .none | exact .row rfl | refine .cells ?_ | refine ⟨_, _, rfl, .rfl, ?_⟩ | refine ⟨_, _, rfl, .any, ?_⟩ | refine ⟨_, _, rfl, .nil, ?_⟩ | refine ⟨_, _, rfl, .int (by first | rfl | omega | (simp only [wrs]; omega)), ?_⟩ | refine ⟨?_, ?_⟩))
                        done
                      · skip
                        exact LeFr.same (by kernel_rfl)
                    · skip
                      rintro b hb
                      rcases Nat.lt_or_ge b 8 with hb8 | hb8
                      · skip
                        conv => whnf
                        refine bT (decide_eq_true (by omega)) ?_
                        conv => whnf
                        refine .ct ?_
                        conv => whnf
                        refine CallG.mk (deaf_X _ _ _ n _ _ (by omega)) rfl ?_
                        conv => whnf
                        refine bS (fun hc6 => ?_) (fun hc6 => ?_)
                        · skip
                          try simp only [bls] at hc6
                          conv => whnf
                          refine bT (decide_eq_true (by omega)) ?_
                          conv => whnf
                          refine bT (decide_eq_true (by omega)) ?_
                          conv => whnf
                          refine bT (decide_eq_true (by omega)) ?_
                          conv => whnf
                          refine bS (fun hc7 => ?_) (fun hc7 => ?_)
                          · skip
                            try simp only [bls] at hc7
                            conv => whnf
                            refine ⟨(b + 1), (by omega), (by omega), ?_⟩
                            refine ⟨?_, ?_, ?_⟩
                            · skip
                              repeat ((conv => whnf); first | exact True.intro | refine ⟨.rfl, ?_⟩ | refine ⟨.any, ?_⟩ | refine ⟨.nil, ?_⟩ | refine ⟨.int (by first | rfl | omega | (simp only [wrs]; omega)), ?_⟩)
                            · skip
                              repeat (first | exact LeVs.nil | ((conv => whnf); first | exact True.intro | exact .none | exact .row rfl | exact .row ((hear_sf (by omega) (by omega) (by rw [hearB_in (by omega) (by omega)]; simp_all; done)).symm) | refine .cells ?_ | refine ⟨_, _, rfl, .rfl, ?_⟩ | refine ⟨_, _, rfl, .any, ?_⟩ | refine ⟨_, _, rfl, .nil, ?_⟩ | refine ⟨_, _, rfl, .int (by first | rfl | omega | (simp only [wrs]; omega)), ?_⟩ | refine ⟨?_, ?_⟩))
                              done
                            · skip
                              exact LeFr.same (by kernel_rfl)
                          · skip
                            try simp only [bls] at hc7
                            conv => whnf
                            refine bS (fun hc8 => ?_) (fun hc8 => ?_)
                            · skip
                              try simp only [bls] at hc8
                              conv => whnf
                              refine ⟨ApOk.lit rfl, ?_⟩
                              conv => whnf
                              refine ⟨hear_bd _ _ _ _ _, ?_⟩
                              conv => whnf
                              refine ⟨(b + 1), (by omega), (by omega), ?_⟩
                              refine ⟨?_, ?_, ?_⟩
                              · skip
                                repeat ((conv => whnf); first | exact True.intro | refine ⟨.rfl, ?_⟩ | refine ⟨.any, ?_⟩ | refine ⟨.nil, ?_⟩ | refine ⟨.int (by first | rfl | omega | (simp only [wrs]; omega)), ?_⟩)
                              · skip
                                repeat (first | exact LeVs.nil | ((conv => whnf); first | exact True.intro | exact .none | exact .row rfl | exact .row ((hear_st (by omega) (by omega) (by rw [hearB_out (by omega)]; simp_all; done)).symm) | refine .cells ?_ | refine ⟨_, _, rfl, .rfl, ?_⟩ | refine ⟨_, _, rfl, .any, ?_⟩ | refine ⟨_, _, rfl, .nil, ?_⟩ | refine ⟨_, _, rfl, .int (by first | rfl | omega | (simp only [wrs]; omega)), ?_⟩ | refine ⟨?_, ?_⟩))
                                done
                              · skip
                                exact LeFr.same (by kernel_rfl)
                            · skip
                              try simp only [bls] at hc8
                              conv => whnf
                              refine ⟨(b + 1), (by omega), (by omega), ?_⟩
                              refine ⟨?_, ?_, ?_⟩
                              · skip
                                repeat ((conv => whnf); first | exact True.intro | refine ⟨.rfl, ?_⟩ | refine ⟨.any, ?_⟩ | refine ⟨.nil, ?_⟩ | refine ⟨.int (by first | rfl | omega | (simp only [wrs]; omega)), ?_⟩)
                              · skip
                                repeat (first | exact LeVs.nil | ((conv => whnf); first | exact True.intro | exact .none | exact .row rfl | exact .row ((hear_sf (by omega) (by omega) (by rw [hearB_out (by omega)]; simp_all; done)).symm) | refine .cells ?_ | refine ⟨_, _, rfl, .rfl, ?_⟩ | refine ⟨_, _, rfl, .any, ?_⟩ | refine ⟨_, _, rfl, .nil, ?_⟩ | refine ⟨_, _, rfl, .int (by first | rfl | omega | (simp only [wrs]; omega)), ?_⟩ | refine ⟨?_, ?_⟩))
                                done
                              · skip
                                exact LeFr.same (by kernel_rfl)
                        · skip
                          try simp only [bls] at hc6
                          conv => whnf
                          refine bF (decide_eq_false (by omega)) ?_
                          conv => whnf
                          refine bF (decide_eq_false (by omega)) ?_
                          conv => whnf
                          refine bF (decide_eq_false (by omega)) ?_
                          conv => whnf
                          refine bS (fun hc9 => ?_) (fun hc9 => ?_)
                          · skip
                            try simp only [bls] at hc9
                            conv => whnf
                            refine ⟨ApOk.lit rfl, ?_⟩
                            conv => whnf
                            refine ⟨hear_bd _ _ _ _ _, ?_⟩
                            conv => whnf
                            refine ⟨(b + 1), (by omega), (by omega), ?_⟩
                            refine ⟨?_, ?_, ?_⟩
                            · skip
                              repeat ((conv => whnf); first | exact True.intro | refine ⟨.rfl, ?_⟩ | refine ⟨.any, ?_⟩ | refine ⟨.nil, ?_⟩ | refine ⟨.int (by first | rfl | omega | (simp only [wrs]; omega)), ?_⟩)
                            · skip
                              repeat (first | exact LeVs.nil | ((conv => whnf); first | exact True.intro | exact .none | exact .row rfl | exact .row ((hear_st (by omega) (by omega) (by rw [hearB_out (by omega)]; simp_all; done)).symm) | refine .cells ?_ | refine ⟨_, _, rfl, .rfl, ?_⟩ | refine ⟨_, _, rfl, .any, ?_⟩ | refine ⟨_, _, rfl, .nil, ?_⟩ | refine ⟨_, _, rfl, .int (by first | rfl | omega | (simp only [wrs]; omega)), ?_⟩ | refine ⟨?_, ?_⟩))
                              done
                            · skip
                              exact LeFr.same (by kernel_rfl)
                          · skip
                            try simp only [bls] at hc9
                            conv => whnf
                            refine ⟨(b + 1), (by omega), (by omega), ?_⟩
                            refine ⟨?_, ?_, ?_⟩
                            · skip
                              repeat ((conv => whnf); first | exact True.intro | refine ⟨.rfl, ?_⟩ | refine ⟨.any, ?_⟩ | refine ⟨.nil, ?_⟩ | refine ⟨.int (by first | rfl | omega | (simp only [wrs]; omega)), ?_⟩)
                            · skip
                              repeat (first | exact LeVs.nil | ((conv => whnf); first | exact True.intro | exact .none | exact .row rfl | exact .row ((hear_sf (by omega) (by omega) (by rw [hearB_out (by omega)]; simp_all; done)).symm) | refine .cells ?_ | refine ⟨_, _, rfl, .rfl, ?_⟩ | refine ⟨_, _, rfl, .any, ?_⟩ | refine ⟨_, _, rfl, .nil, ?_⟩ | refine ⟨_, _, rfl, .int (by first | rfl | omega | (simp only [wrs]; omega)), ?_⟩ | refine ⟨?_, ?_⟩))
                              done
                            · skip
                              exact LeFr.same (by kernel_rfl)
                      · skip
                        obtain rfl : b = 8 := by omega
                        conv => whnf
                        refine ⟨(a + 1), (by omega), (by omega), ?_⟩
                        refine ⟨?_, ?_, ?_⟩
                        · skip
                          repeat ((conv => whnf); first | exact True.intro | refine ⟨.rfl, ?_⟩ | refine ⟨.any, ?_⟩ | refine ⟨.nil, ?_⟩ | refine ⟨.int (by first | rfl | omega | (simp only [wrs]; omega)), ?_⟩)
                        · skip
                          repeat (first | exact LeVs.nil | ((conv => whnf); first | exact True.intro | exact .none | exact .row rfl | refine .cells ?_ | refine ⟨_, _, rfl, .rfl, ?_⟩ | refine ⟨_, _, rfl, .any, ?_⟩ | refine ⟨_, _, rfl, .nil, ?_⟩ | refine ⟨_, _, rfl, .int (by first | rfl | omega | (simp only [wrs]; omega)), ?_⟩ | refine ⟨?_, ?_⟩))
                          done
                        · skip
                          exact LeFr.same (by kernel_rfl)
                  · skip
                    obtain rfl : a = 8 := by omega
                    conv => whnf
                    refine ⟨.inr rfl, ?_⟩
                    conv => whnf
                    refine bF (notF (decide_eq_true (by rw [part_x (by assumption) (by assumption) (by assumption)]))) ?_
                    conv => whnf
                    refine bF (notF (decide_eq_true (by rw [part_x (by assumption) (by assumption) (by assumption)]))) ?_
                    conv => whnf
                    refine bF (notF (decide_eq_true (by rw [part_x (by assumption) (by assumption) (by assumption)]))) ?_
                    conv => whnf
                    refine bF (notF (decide_eq_true (by rw [part_x (by assumption) (by assumption) (by assumption)]))) ?_
                    conv => whnf
                    refine bF (notF (decide_eq_true (by rw [mend_t (by assumption) (by assumption) (by assumption)]))) ?_
                    conv => whnf
                    refine bF (notF (decide_eq_true (by rw [mend_t (by assumption) (by assumption) (by assumption)]))) ?_
                    conv => whnf
                    refine bF (notF (decide_eq_true (by rw [mend_t (by assumption) (by assumption) (by assumption)]))) ?_
                    conv => whnf
                    refine .ct ?_
                    conv => whnf
                    refine CallG.mk (same6_X _ _ _ true true true (partN n x.1 x.2).1 net0 (part_ok _ _ _).2 net0_sz) rfl ?_
                    conv => whnf
                    refine bF (notF (decide_eq_true (by rw [mend_t (by assumption) (by assumption) (by assumption)]))) ?_
                    conv => whnf
                    refine bF (notF (decide_eq_true (by rw [mend_t (by assumption) (by assumption) (by assumption)]))) ?_
                    conv => whnf
                    refine bF (notF (decide_eq_true (by rw [part_x (by assumption) (by assumption) (by assumption)]))) ?_
                    conv => whnf
                    refine bF (notF (decide_eq_true (by rw [part_x (by assumption) (by assumption) (by assumption)]))) ?_
                    conv => whnf
                    refine bF (notF (decide_eq_true (by rw [part_x (by assumption) (by assumption) (by assumption)]))) ?_
                    conv => whnf
                    refine .ct ?_
                    conv => whnf
                    refine CallG.mk (same6_X _ _ _ _ _ _ (mendN n x.1 x.2).1 ⟨n.s, n.l, hearL n.d x.1 x.2 true 64⟩ (mend_ok _ _ _).2 (hear_sz hsz _ _ _ _)) rfl ?_
                    conv => whnf
                    refine bF (notF (decide_eq_true (by rw [part_x (by assumption) (by assumption) (by assumption)]))) ?_
                    conv => whnf
                    refine bF (notF (decide_eq_true (by rw [part_x (by assumption) (by assumption) (by assumption)]))) ?_
                    conv => whnf
                    refine bF (notF (decide_eq_true (by rw [mend_t (by assumption) (by assumption) (by assumption)]))) ?_
                    conv => whnf
                    refine .wr (WCall.spoilL [(1, netCX)] [] NetA.Sz (sz_spoil (part_ok n x.1 x.2).2) rfl rfl rfl (bl1 (mend_ok n x.1 x.2).2 rfl) ?_); intro y hy
                    conv => whnf
                    refine .wr (WCall.spoil (sz_spoil hy).sp rfl ?_)
                    conv => whnf
                    refine ⟨by assumption, ?_⟩
                    conv => whnf
                    refine ⟨by assumption, ?_⟩
                    conv => whnf
                    refine .ct ?_
                    conv => whnf
                    refine CallG.mk (same6_X _ _ _ _ _ _ n n hsz hsz) rfl ?_
                    conv => whnf
                    refine ⟨⟨⟨_, _, rfl⟩, rfl, ⟨_, _, rfl⟩, rfl, ⟨_, _, rfl⟩, rfl, ⟨_, _, rfl⟩, rfl, True.intro⟩, ?_⟩
                    conv => whnf
                    refine XT.of tabX_ok ?_
                    conv => whnf
                    refine bF (by simp [List.length_map, List.length_append, List.length_take, List.length_drop, List.length_cons, List.length_nil, slC, dfC, netX, net0, List.map_nil, mix_len, pkX, slX, sl0, delS]; done) ?_
                    conv => whnf
                    refine ⟨(k + 1), (by first | omega | (simp only [List.length_map] at *; omega)), (by first | omega | (simp only [List.length_map] at *; omega)), ?_⟩
                    refine ⟨?_, ?_, ?_⟩
                    · skip
                      repeat ((conv => whnf); first | exact True.intro | refine ⟨.rfl, ?_⟩ | refine ⟨.any, ?_⟩ | refine ⟨.nil, ?_⟩ | refine ⟨.int (by first | rfl | omega | (simp only [wrs]; omega)), ?_⟩)
                    · skip
                      repeat (first | exact LeVs.nil | ((conv => whnf); first | exact True.intro | exact .none | exact .row rfl | refine .cells ?_ | refine ⟨_, _, rfl, .rfl, ?_⟩ | refine ⟨_, _, rfl, .any, ?_⟩ | refine ⟨_, _, rfl, .nil, ?_⟩ | refine ⟨_, _, rfl, .int (by first | rfl | omega | (simp only [wrs]; omega)), ?_⟩ | refine ⟨?_, ?_⟩))
                      done
                    · skip
                      exact LeFr.same (by kernel_rfl)
              · skip
                try simp only [bls] at hc5
                conv => whnf
                refine ⟨by assumption, ?_⟩
                conv => whnf
                refine ⟨by assumption, ?_⟩
                conv => whnf
                refine ⟨_, rfl, ?_⟩
                conv => whnf
                refine ⟨by simp only [bls]; omega, ?_⟩
                conv => whnf
                refine ⟨by assumption, ?_⟩
                conv => whnf
                refine ⟨_, rfl, ?_⟩
                conv => whnf
                refine ⟨by simp only [bls]; omega, ?_⟩
                conv => whnf
                refine .inl ?_
                conv => whnf
                refine InlG.mk (by kernel_rfl) Try.func17 rfl (Nat.le_of_ble_eq_true rfl) (XT.of tabX_ok ?_)
                conv => whnf
                refine XT.nilr 9 77 2 rfl rfl ?_
                conv => whnf
                refine XT.tidy ?_
                conv => whnf
                refine XT.loop tabX_ok (Y := Nat) [9, 10, 11, 12, 13, 14, 15, 16, 17, 18, 19, 20, 21, 22, 23, 24, 25, 26, 27, 28, 29, 30, 31, 32, 33, 34, 35, 36, 37, 38, 39, 40, 41] (fun a => [(10, .p (.v (.int .i64 ((a : Int) + 1))) (nlv _)), (9, .row 6)]) (fun a => [(6, .row 77 2 ((hearL n.d x.1 x.2 false (8 * a)).map dfC) (nl_df _))]) (fun a => a ≤ 8) (fun a => 8 - a) 0 (Nat.zero_le _) ?_ ?_
                · skip
                  refine ⟨?_, ?_, ?_⟩
                  · skip
                    repeat ((conv => whnf); first | exact True.intro | refine ⟨.rfl, ?_⟩ | refine ⟨.any, ?_⟩ | refine ⟨.nil, ?_⟩ | refine ⟨.int (by first | rfl | omega | (simp only [wrs]; omega)), ?_⟩)
                  · skip
                    repeat (first | exact LeVs.nil | ((conv => whnf); first | exact True.intro | exact .none | exact .row rfl | refine .cells ?_ | refine ⟨_, _, rfl, .rfl, ?_⟩ | refine ⟨_, _, rfl, .any, ?_⟩ | refine ⟨_, _, rfl, .nil, ?_⟩ | refine ⟨_, _, rfl, .int (by first | rfl | omega | (simp only [wrs]; omega)), ?_⟩ | refine ⟨?_, ?_⟩))
                    done
                  · skip
                    exact LeFr.same (by kernel_rfl)
                · skip
                  rintro a ha
                  rcases Nat.lt_or_ge a 8 with ha8 | ha8
                  · skip
                    conv => whnf
                    refine bT (decide_eq_true (by omega)) ?_
                    conv => whnf
                    refine XT.loop tabX_ok (Y := Nat) [9, 11, 12, 17, 18, 19, 20, 21, 22, 23, 24, 25, 26, 27, 28, 29, 30, 31, 32, 33, 34, 35, 36, 37, 38, 39, 40, 41] (fun b => [(11, .p (.v (.int .i64 ((b : Int) + 1))) (nlv _)), (9, .row 6)]) (fun b => [(6, .row 77 2 ((hearL n.d x.1 x.2 false (8 * a + b)).map dfC) (nl_df _))]) (fun b => b ≤ 8) (fun b => 8 - b) 0 (Nat.zero_le _) ?_ ?_
                    · skip
                      refine ⟨?_, ?_, ?_⟩
                      · skip
                        repeat ((conv => whnf); first | exact True.intro | refine ⟨.rfl, ?_⟩ | refine ⟨.any, ?_⟩ | refine ⟨.nil, ?_⟩ | refine ⟨.int (by first | rfl | omega | (simp only [wrs]; omega)), ?_⟩)
                      · skip
                        repeat (first | exact LeVs.nil | ((conv => whnf); first | exact True.intro | exact .none | exact .row rfl | refine .cells ?_ | refine ⟨_, _, rfl, .rfl, ?_⟩ | refine ⟨_, _, rfl, .any, ?_⟩ | refine ⟨_, _, rfl, .nil, ?_⟩ | refine ⟨_, _, rfl, .int (by first | rfl | omega | (simp only [wrs]; omega)), ?_⟩ | refine ⟨?_, ?_⟩))
                        done
                      · skip
                        exact LeFr.same (by kernel_rfl)
                    · skip
                      rintro b hb
                      rcases Nat.lt_or_ge b 8 with hb8 | hb8
                      · skip
                        conv => whnf
                        refine bT (decide_eq_true (by omega)) ?_
                        conv => whnf
                        refine .ct ?_
                        conv => whnf
                        refine CallG.mk (deaf_X _ _ _ n _ _ (by omega)) rfl ?_
                        conv => whnf
                        refine bS (fun hc10 => ?_) (fun hc10 => ?_)
                        · skip
                          try simp only [bls] at hc10
                          conv => whnf
                          refine bT (decide_eq_true (by omega)) ?_
                          conv => whnf
                          refine bT (decide_eq_true (by omega)) ?_
                          conv => whnf
                          refine bT (decide_eq_true (by omega)) ?_
                          conv => whnf
                          refine bS (fun hc11 => ?_) (fun hc11 => ?_)
                          · skip
                            try simp only [bls] at hc11
                            conv => whnf
                            refine ⟨ApOk.lit rfl, ?_⟩
                            conv => whnf
                            refine ⟨hear_bd _ _ _ _ _, ?_⟩
                            conv => whnf
                            refine ⟨(b + 1), (by omega), (by omega), ?_⟩
                            refine ⟨?_, ?_, ?_⟩
                            · skip
                              repeat ((conv => whnf); first | exact True.intro | refine ⟨.rfl, ?_⟩ | refine ⟨.any, ?_⟩ | refine ⟨.nil, ?_⟩ | refine ⟨.int (by first | rfl | omega | (simp only [wrs]; omega)), ?_⟩)
                            · skip
                              repeat (first | exact LeVs.nil | ((conv => whnf); first | exact True.intro | exact .none | exact .row rfl | exact .row ((hear_st (by omega) (by omega) (by rw [hearB_in (by omega) (by omega)]; simp_all; done)).symm) | refine .cells ?_ | refine ⟨_, _, rfl, .rfl, ?_⟩ | refine ⟨_, _, rfl, .any, ?_⟩ | refine ⟨_, _, rfl, .nil, ?_⟩ | refine ⟨_, _, rfl, .int (by first | rfl | omega | (simp only [wrs]; omega)), ?_⟩ | refine ⟨?_, ?_⟩))
                              done
                            · skip
                              exact LeFr.same (by kernel_rfl)
                          · skip
                            try simp only [bls] at hc11
                            conv => whnf
                            refine bS (fun hc12 => ?_) (fun hc12 => ?_)
                            · skip
                              try simp only [bls] at hc12
                              conv => whnf
                              refine ⟨ApOk.lit rfl, ?_⟩
                              conv => whnf
                              refine ⟨hear_bd _ _ _ _ _, ?_⟩
                              conv => whnf
                              refine ⟨(b + 1), (by omega), (by omega), ?_⟩
                              refine ⟨?_, ?_, ?_⟩
                              · skip
                                repeat ((conv => whnf); first | exact True.intro | refine ⟨.rfl, ?_⟩ | refine ⟨.any, ?_⟩ | refine ⟨.nil, ?_⟩ | refine ⟨.int (by first | rfl | omega | (simp only [wrs]; omega)), ?_⟩)
                              · skip
                                repeat (first | exact LeVs.nil | ((conv => whnf); first | exact True.intro | exact .none | exact .row rfl | exact .row ((hear_st (by omega) (by omega) (by rw [hearB_out (by omega)]; simp_all; done)).symm) | refine .cells ?_ | refine ⟨_, _, rfl, .rfl, ?_⟩ | refine ⟨_, _, rfl, .any, ?_⟩ | refine ⟨_, _, rfl, .nil, ?_⟩ | refine ⟨_, _, rfl, .int (by first | rfl | omega | (simp only [wrs]; omega)), ?_⟩ | refine ⟨?_, ?_⟩))
                                done
                              · skip
                                exact LeFr.same (by kernel_rfl)
                            · skip
                              try simp only [bls] at hc12
                              conv => whnf
                              refine ⟨(b + 1), (by omega), (by omega), ?_⟩
                              refine ⟨?_, ?_, ?_⟩
                              · skip
                                repeat ((conv => whnf); first | exact True.intro | refine ⟨.rfl, ?_⟩ | refine ⟨.any, ?_⟩ | refine ⟨.nil, ?_⟩ | refine ⟨.int (by first | rfl | omega | (simp only [wrs]; omega)), ?_⟩)
                              · skip
                                repeat (first | exact LeVs.nil | ((conv => whnf); first | exact True.intro | exact .none | exact .row rfl | exact .row ((hear_sf (by omega) (by omega) (by rw [hearB_out (by omega)]; simp_all; done)).symm) | refine .cells ?_ | refine ⟨_, _, rfl, .rfl, ?_⟩ | refine ⟨_, _, rfl, .any, ?_⟩ | refine ⟨_, _, rfl, .nil, ?_⟩ | refine ⟨_, _, rfl, .int (by first | rfl | omega | (simp only [wrs]; omega)), ?_⟩ | refine ⟨?_, ?_⟩))
                                done
                              · skip
                                exact LeFr.same (by kernel_rfl)
                        · skip
                          try simp only [bls] at hc10
                          conv => whnf
                          refine bF (decide_eq_false (by omega)) ?_
                          conv => whnf
                          refine bF (decide_eq_false (by omega)) ?_
                          conv => whnf
                          refine bF (decide_eq_false (by omega)) ?_
                          conv => whnf
                          refine bS (fun hc13 => ?_) (fun hc13 => ?_)
                          · skip
                            try simp only [bls] at hc13
                            conv => whnf
                            refine ⟨ApOk.lit rfl, ?_⟩
                            conv => whnf
                            refine ⟨hear_bd _ _ _ _ _, ?_⟩
                            conv => whnf
                            refine ⟨(b + 1), (by omega), (by omega), ?_⟩
                            refine ⟨?_, ?_, ?_⟩
                            · skip
                              repeat ((conv => whnf); first | exact True.intro | refine ⟨.rfl, ?_⟩ | refine ⟨.any, ?_⟩ | refine ⟨.nil, ?_⟩ | refine ⟨.int (by first | rfl | omega | (simp only [wrs]; omega)), ?_⟩)
                            · skip
                              repeat (first | exact LeVs.nil | ((conv => whnf); first | exact True.intro | exact .none | exact .row rfl | exact .row ((hear_st (by omega) (by omega) (by rw [hearB_out (by omega)]; simp_all; done)).symm) | refine .cells ?_ | refine ⟨_, _, rfl, .rfl, ?_⟩ | refine ⟨_, _, rfl, .any, ?_⟩ | refine ⟨_, _, rfl, .nil, ?_⟩ | refine ⟨_, _, rfl, .int (by first | rfl | omega | (simp only [wrs]; omega)), ?_⟩ | refine ⟨?_, ?_⟩))
                              done
                            · skip
                              exact LeFr.same (by kernel_rfl)
                          · skip
                            try simp only [bls] at hc13
                            conv => whnf
                            refine ⟨(b + 1), (by omega), (by omega), ?_⟩
                            refine ⟨?_, ?_, ?_⟩
                            · skip
                              repeat ((conv => whnf); first | exact True.intro | refine ⟨.rfl, ?_⟩ | refine ⟨.any, ?_⟩ | refine ⟨.nil, ?_⟩ | refine ⟨.int (by first | rfl | omega | (simp only [wrs]; omega)), ?_⟩)
                            · skip
                              repeat (first | exact LeVs.nil | ((conv => whnf); first | exact True.intro | exact .none | exact .row rfl | exact .row ((hear_sf (by omega) (by omega) (by rw [hearB_out (by omega)]; simp_all; done)).symm) | refine .cells ?_ | refine ⟨_, _, rfl, .rfl, ?_⟩ | refine ⟨_, _, rfl, .any, ?_⟩ | refine ⟨_, _, rfl, .nil, ?_⟩ | refine ⟨_, _, rfl, .int (by first | rfl | omega | (simp only [wrs]; omega)), ?_⟩ | refine ⟨?_, ?_⟩))
                              done
                            · skip
                              exact LeFr.same (by kernel_rfl)
                      · skip
                        obtain rfl : b = 8 := by omega
                        conv => whnf
                        refine ⟨(a + 1), (by omega), (by omega), ?_⟩
                        refine ⟨?_, ?_, ?_⟩
                        · skip
                          repeat ((conv => whnf); first | exact True.intro | refine ⟨.rfl, ?_⟩ | refine ⟨.any, ?_⟩ | refine ⟨.nil, ?_⟩ | refine ⟨.int (by first | rfl | omega | (simp only [wrs]; omega)), ?_⟩)
                        · skip
                          repeat (first | exact LeVs.nil | ((conv => whnf); first | exact True.intro | exact .none | exact .row rfl | refine .cells ?_ | refine ⟨_, _, rfl, .rfl, ?_⟩ | refine ⟨_, _, rfl, .any, ?_⟩ | refine ⟨_, _, rfl, .nil, ?_⟩ | refine ⟨_, _, rfl, .int (by first | rfl | omega | (simp only [wrs]; omega)), ?_⟩ | refine ⟨?_, ?_⟩))
                          done
                        · skip
                          exact LeFr.same (by kernel_rfl)
                  · skip
                    obtain rfl : a = 8 := by omega
                    conv => whnf
                    refine ⟨.inr rfl, ?_⟩
                    conv => whnf
                    refine bF (notF (decide_eq_true (by rw [part_t (by assumption) (by assumption) (by assumption)]))) ?_
                    conv => whnf
                    refine bF (notF (decide_eq_true (by rw [part_t (by assumption) (by assumption) (by assumption)]))) ?_
                    conv => whnf
                    refine bF (notF (decide_eq_true (by rw [part_t (by assumption) (by assumption) (by assumption)]))) ?_
                    conv => whnf
                    refine bF (notF (decide_eq_true (by rw [part_t (by assumption) (by assumption) (by assumption)]))) ?_
                    conv => whnf
                    refine bF (notF (decide_eq_true (by rw [mend_x (by assumption) (by assumption) (by assumption)]))) ?_
                    conv => whnf
                    refine bF (notF (decide_eq_true (by rw [mend_x (by assumption) (by assumption) (by assumption)]))) ?_
                    conv => whnf
                    refine bF (notF (decide_eq_true (by rw [mend_x (by assumption) (by assumption) (by assumption)]))) ?_
                    conv => whnf
                    refine .ct ?_
                    conv => whnf
                    refine CallG.mk (same6_X _ _ _ _ _ _ (partN n x.1 x.2).1 ⟨n.s, n.l, hearL n.d x.1 x.2 false 64⟩ (part_ok _ _ _).2 (hear_sz hsz _ _ _ _)) rfl ?_
                    conv => whnf
                    refine bF (notF (decide_eq_true (by rw [mend_x (by assumption) (by assumption) (by assumption)]))) ?_
                    conv => whnf
                    refine bF (notF (decide_eq_true (by rw [mend_x (by assumption) (by assumption) (by assumption)]))) ?_
                    conv => whnf
                    refine bF (notF (decide_eq_true (by rw [part_t (by assumption) (by assumption) (by assumption)]))) ?_
                    conv => whnf
                    refine bF (notF (decide_eq_true (by rw [part_t (by assumption) (by assumption) (by assumption)]))) ?_
                    conv => whnf
                    refine bF (notF (decide_eq_true (by rw [part_t (by assumption) (by assumption) (by assumption)]))) ?_
                    conv => whnf
                    refine .ct ?_
                    conv => whnf
                    refine CallG.mk (same6_X _ _ _ true true true (mendN n x.1 x.2).1 net0 (mend_ok _ _ _).2 net0_sz) rfl ?_
                    conv => whnf
                    refine bF (notF (decide_eq_true (by rw [part_t (by assumption) (by assumption) (by assumption)]))) ?_
                    conv => whnf
                    refine bF (notF (decide_eq_true (by rw [part_t (by assumption) (by assumption) (by assumption)]))) ?_
                    conv => whnf
                    refine bF (notF (decide_eq_true (by rw [mend_x (by assumption) (by assumption) (by assumption)]))) ?_
                    conv => whnf
                    refine .wr (WCall.spoilL [(1, netCX)] [] NetA.Sz (sz_spoil (part_ok n x.1 x.2).2) rfl rfl rfl (bl1 (mend_ok n x.1 x.2).2 rfl) ?_); intro y hy
                    conv => whnf
                    refine .wr (WCall.spoil (sz_spoil hy).sp rfl ?_)
                    conv => whnf
                    refine ⟨by assumption, ?_⟩
                    conv => whnf
                    refine ⟨by assumption, ?_⟩
                    conv => whnf
                    refine .ct ?_
                    conv => whnf
                    refine CallG.mk (same6_X _ _ _ _ _ _ n n hsz hsz) rfl ?_
                    conv => whnf
                    refine ⟨⟨⟨_, _, rfl⟩, rfl, ⟨_, _, rfl⟩, rfl, ⟨_, _, rfl⟩, rfl, ⟨_, _, rfl⟩, rfl, True.intro⟩, ?_⟩
                    conv => whnf
                    refine XT.of tabX_ok ?_
                    conv => whnf
                    refine bF (by simp [List.length_map, List.length_append, List.length_take, List.length_drop, List.length_cons, List.length_nil, slC, dfC, netX, net0, List.map_nil, mix_len, pkX, slX, sl0, delS]; done) ?_
                    conv => whnf
                    refine ⟨(k + 1), (by first | omega | (simp only [List.length_map] at *; omega)), (by first | omega | (simp only [List.length_map] at *; omega)), ?_⟩
                    refine ⟨?_, ?_, ?_⟩
                    · skip
                      repeat ((conv => whnf); first | exact True.intro | refine ⟨.rfl, ?_⟩ | refine ⟨.any, ?_⟩ | refine ⟨.nil, ?_⟩ | refine ⟨.int (by first | rfl | omega | (simp only [wrs]; omega)), ?_⟩)
                    · skip
                      repeat (first | exact LeVs.nil | ((conv => whnf); first | exact True.intro | exact .none | exact .row rfl | refine .cells ?_ | refine ⟨_, _, rfl, .rfl, ?_⟩ | refine ⟨_, _, rfl, .any, ?_⟩ | refine ⟨_, _, rfl, .nil, ?_⟩ | refine ⟨_, _, rfl, .int (by first | rfl | omega | (simp only [wrs]; omega)), ?_⟩ | refine ⟨?_, ?_⟩))
                      done
                    · skip
                      exact LeFr.same (by kernel_rfl)
    · skip
      try simp only [bls] at hc1
      conv => whnf
      refine FinG.mk none ?_ (by rintro _ ⟨⟩)
      simp only [outs, List.length_map, List.length_append, List.length_take, List.length_drop, List.length_cons, List.length_nil, slC, dfC, netX, net0, List.map_nil, mix_len, pkX, slX, sl0, delS]
end Go.Proofs.Ytmhmldpccccjbaa
