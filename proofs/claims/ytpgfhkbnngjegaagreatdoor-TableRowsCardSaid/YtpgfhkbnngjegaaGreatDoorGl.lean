/- Package-level variables that are only read: none. No condition. -/
import Derived.Below
import Derived.Laws.OwnMore
import Derived.Deep.AppendLies
import Derived.Deep.Draws
import Derived.Laws.Rows
import Derived.Maps.AppendAt
import Derived.Laws.CopyOwn
import Derived.OwnWalk
import Derived.BigFrame
namespace Go.Proofs.YtpgfhkbnngjegaaGreatDoor
open Go.RowKit
/-- No string shares the bytes of a block. -/
def Unf (w : World) (k : Nat) : Prop := ∃ cur ty, w.heap[k]? = some (.cells cur ty (0, 0))

theorem addr_block (a : Addr) (n : Nat) : (a.add n).block = a.block := by unfold Addr.add; split <;> rfl
theorem addr_add (a : Addr) (i j : Nat) : (a.add i).add j = a.add (i + j) := by
  unfold Addr.add
  by_cases hi : i = 0 <;> by_cases hj : j = 0 <;> simp [hi, hj, Nat.add_assoc]

/-- The slice of n elements (size cells each) at A reads as the cells xs; e: the element type of the block where it lies, where that is known. -/
def Sees (w : World) (e : Option TypeId) (size : Nat) (A : Option Addr) (n : Nat) (xs : List Value) : Prop :=
  xs.length = n * size ∧ (A = none → n = 0) ∧ ∀ ad, A = some ad →
    (0 < n → ∃ cur t fz, w.heap[ad.block]? = some (.cells cur t fz) ∧ ∀ t', e = some t' → t = t') ∧ ∀ j u, xs[j]? = some u → w.cell? (ad.add j) = some u

section
variable {w w' : World} {e : Option TypeId} {size n : Nat} {A : Option Addr} {xs : List Value}

theorem Sees.nil (w : World) (e : Option TypeId) (size : Nat) : Sees w e size none 0 [] := ⟨by simp, fun _ => rfl, fun _ h => by cases h⟩

theorem Sees.empty (h : Sees w e size A 0 xs) : xs = [] := List.eq_nil_of_length_eq_zero (by simpa using h.1)

theorem Sees.addr (h : Sees w e size A n xs) (hn : 0 < n) : ∃ ad, A = some ad := by
  cases A with
  | none => exact absurd (h.2.1 rfl) (by omega)
  | some ad => exact ⟨ad, rfl⟩

theorem Sees.lt (h : Sees w e size A n xs) (hn : 0 < n) {ad : Addr} (ha : A = some ad) : ad.block < w.heap.size := by
  obtain ⟨cur, t, fz, hc, _⟩ := (h.2.2 ad ha).1 hn
  exact (Array.getElem?_eq_some_iff.1 hc).1

theorem Sees.keep (h : Sees w e size A n xs) (hk : ∀ k, k < w.heap.size → (∃ ad, A = some ad ∧ k = ad.block ∧ 0 < n) → w'.heap[k]? = w.heap[k]?) : Sees w' e size A n xs := by
  refine ⟨h.1, h.2.1, fun ad ha => ?_⟩
  rcases Nat.eq_zero_or_pos n with h0 | h0
  · subst h0
    have hx := h.empty
    subst hx
    exact ⟨fun hh => absurd hh (by omega), fun j u hu => by simp at hu⟩
  · have hb := hk ad.block (h.lt h0 ha) ⟨ad, ha, rfl, h0⟩
    refine ⟨fun _ => ?_, fun j u hu => ?_⟩
    · rw [hb]; exact (h.2.2 ad ha).1 h0
    · rw [World.cell?_of_block (w := w) (by rw [addr_block]; exact hb)]
      exact (h.2.2 ad ha).2 j u hu

theorem Sees.alloc (h : Sees w e size A n xs) (o : Obj) : Sees (w.alloc o) e size A n xs := h.keep fun k hk _ => Below.heap_alloc w o k hk
theorem Sees.of_own {base c : Nat} {e : TypeId} (h : w.ownsRow base e size (.slice A n c) n xs) : Sees w (some e) size A n xs := by
  refine ⟨h.1, fun ha => ?_, fun ad ha => ?_⟩
  · rcases h.2 with ⟨_, h0⟩ | ⟨g, cap, cur, hv, _⟩
    · exact h0
    · subst ha; cases hv
  · subst ha
    rcases h.2 with ⟨hv, _⟩ | ⟨g, cap, cur, hv, _, hg, _⟩
    · cases hv
    · have hv' := hv
      injection hv' with hA _ _
      injection hA with hA
      subst hA
      exact ⟨fun _ => ⟨cur, e, (0, 0), hg, fun _ ht => Option.some.inj ht⟩, h.cells (g := g) rfl⟩
end

/-- A block that is known whole. -/
def Blk (w : World) (g : Nat) (t : TypeId) (cs : Array Value) : Prop := w.heap[g]? = some (.cells cs t (0, 0))

section
variable {w w' : World} {g : Nat} {t : TypeId} {cs : Array Value}
theorem Blk.lt (h : Blk w g t cs) : g < w.heap.size := (Array.getElem?_eq_some_iff.1 h).1
theorem Blk.cell (h : Blk w g t cs) (i : Nat) : w.cell? ⟨g, i, none⟩ = cs[i]? := cell_of_row w g i cs t (0, 0) h
theorem Blk.frozen (h : Blk w g t cs) (i : Nat) : w.frozen? ⟨g, i, none⟩ = false := by
  unfold Blk at h
  simp [World.frozen?, h]
theorem Blk.new (w : World) (t : TypeId) (cs : Array Value) : Blk (w.alloc (.cells cs t)) w.heap.size t cs := heap_alloc_new w _
theorem Blk.alloc (h : Blk w g t cs) (o : Obj) : Blk (w.alloc o) g t cs := (Below.heap_alloc w o g h.lt).trans h
theorem Blk.put (h : Blk w g t cs) (i : Nat) (u : Value) : Blk (w.setCell ⟨g, i, none⟩ u) g t (cs.setIfInBounds i u) := by
  unfold Blk at h ⊢
  simp [World.setCell, Array.getElem?_modify, h]
theorem Blk.below (h : Blk w g t cs) (hb : Below w.heap.size w w') : Blk w' g t cs := (hb.block g h.lt).trans h
theorem Blk.grown (h : Blk w g t cs) {row : Option Nat} (hb : w.grownBy w' row) (hg : row ≠ some g) : Blk w' g t cs := (hb.block g h.lt (fun e => hg e.symm)).trans h
end
theorem grown_set (w : World) (g i : Nat) (u : Value) : w.grownBy (w.setCell ⟨g, i, none⟩ u) (some g) :=
  ⟨rfl, rfl, rfl, by simp [World.setCell], fun k _ hne => Below.heap_setCell w _ u k (fun e => hne (by simp [e]))⟩
theorem grown_trans {a b c : World} {r : Option Nat} (h : a.grownBy b r) (k : b.grownBy c r) : a.grownBy c r :=
  ⟨k.os.trans h.os, k.tape.trans h.tape, k.output.trans h.output, Nat.le_trans h.size k.size, fun i hi hne => (k.block i (Nat.lt_of_lt_of_le hi h.size) hne).trans (h.block i hi hne)⟩
theorem below_of_only {w w' : World} {g B : Nat} (h : w.grownBy w' (some g)) (hg : B ≤ g) (hB : B ≤ w.heap.size) : Below B w w' :=
  ⟨h.os, h.tape, h.output, h.size, fun k hk => h.block k (by omega) (fun e => by injection e; omega)⟩
end Go.Proofs.YtpgfhkbnngjegaaGreatDoor

namespace Go.Proofs.YtpgfhkbnngjegaaGreatDoor
open Go.RowKit

/-- A door: the walk stops where the goal stands behind it. -/
def Door (p : Prop) : Prop := p
theorem Door.enter {p : Prop} (h : Door p) : p := h
theorem Door.leave {p : Prop} (h : p) : Door p := h

/-- What the laws ask of a slice type t of elements e. -/
structure ElemTy (P : Program) (t e : TypeId) (z : Value) (size bytes : Nat) : Prop where
  ht : P.underlying t = some (.slice e)
  hi : (P.info? e).map (fun i => (i.zero, i.size, i.bytes)) = some (some z, size, bytes)
  hzs : z.cells.size = size
  hsz : 0 < size
  hby : 0 < bytes

theorem ElemTy.one {P : Program} {t e : TypeId} {z : Value} {bytes : Nat} (T : ElemTy P t e z 1 bytes) : (P.info? e).map (·.size) = some 1 := by
  obtain ⟨i, hi, _, hs, _⟩ := info_parts T.hi
  simp [hi, hs]

theorem own_cap {w : World} {base : Nat} {e : TypeId} {size n c : Nat} {A : Option Addr} {xs : List Value} (h : w.ownsRow base e size (.slice A n c) n xs) : n ≤ c ∧ c ≤ maxLen := by
  rcases h.2 with ⟨hv, h0⟩ | ⟨g, cap, cur, hv, _, _, hnc, hcm, _⟩
  · injection hv with _ _ hc
    subst hc
    exact ⟨by omega, by simp [maxLen]⟩
  · injection hv with _ _ hc
    subst hc
    exact ⟨hnc, hcm⟩

theorem own_below {w w' : World} {base : Nat} {e : TypeId} {size n : Nat} {v : Value} {xs : List Value} (h : w.ownsRow base e size v n xs) (hb : Below w.heap.size w w') : w'.ownsRow base e size v n xs := by
  refine ⟨h.1, ?_⟩
  rcases h.2 with hn | ⟨g, cap, cur, hv, hb', hg, r⟩
  · exact .inl hn
  · exact .inr ⟨g, cap, cur, hv, hb', by rw [hb.block g (Array.getElem?_eq_some_iff.1 hg).1]; exact hg, r⟩

section
variable {P : Program} {w : World} {t e : TypeId} {z : Value} {size bytes : Nat}

theorem run_append_sees (T : ElemTy P t e z size bytes) (ty : TypeId) {base n c m d : Nat} {A B : Option Addr} {xs ys : List Value}
    (hown : w.ownsRow base e size (.slice A n c) n xs) {e' : Option TypeId} (hr : Sees w e' size B m ys) (h1 : ∀ u ∈ ys, u.oneCell' = true)
    (hb : (n + m) * bytes ≤ 140737488355328) (hbase : base ≤ w.heap.size) :
    ∃ A' c' w', (Builtin.append_ #[t, t] ty #[.slice A n c, .slice B m d]).run P w = .ok (.slice A' (n + m) c') w' ∧
      w'.ownsRow base e size (.slice A' (n + m) c') (n + m) (xs ++ ys) ∧ w.grownBy w' (Value.ownBlock (.slice A n c)) ∧
      (Value.ownBlock (.slice A' (n + m) c') = Value.ownBlock (.slice A n c) ∨ Value.ownBlock (.slice A' (n + m) c') = some w.heap.size) := by
  obtain ⟨i, hi, hz, hs, hy⟩ := info_parts T.hi
  have h63 : n + m ≤ maxLen := by
    have := Nat.le_mul_of_pos_right (n + m) T.hby
    simp only [maxLen]
    omega
  have shape : ∀ {v' : Value} {w' : World}, w'.ownsRow base e size v' (n + m) (xs ++ ys) → ∃ A' c', v' = .slice A' (n + m) c' := by
    intro v' w' h
    rcases h.2 with ⟨rfl, h0⟩ | ⟨g, cap, cur, rfl, _⟩
    · exact ⟨none, 0, by rw [h0]⟩
    · exact ⟨_, _, rfl⟩
  rcases B with _ | ad
  · have hm : m = 0 := hr.2.1 rfl
    subst hm
    have hn := hr.empty
    subst hn
    have hrun : (Builtin.append_ #[t, t] ty #[.slice A n c, .slice none 0 d]).run P w = .ok (.slice A n c) w := by
      rcases hown.2 with ⟨hv, rfl⟩ | ⟨g, cap, cur, hv, _, _, hnc, _⟩
      · rw [hv]
        simp [Builtin.append_, run_underlying T.ht, sizeOf, typeInfo, hi, Builtin.lenOf, Builtin.firstCells]
      · rw [hv]
        simp [Builtin.append_, run_underlying T.ht, sizeOf, typeInfo, hi, Builtin.lenOf, Builtin.firstCells, hnc, storeCells]
    exact ⟨A, c, w, hrun, by simpa using hown, World.grownBy.refl w _, .inl rfl⟩
  · obtain ⟨v', w', hrun, h2, h3, _, h5⟩ := run_append_own_at (P := P) w base t ty e i z size bytes T.ht hi hz hs hy T.hzs T.hsz _ n xs hown ad m d ys hr.1 (hr.2.2 ad rfl).2 h1 h63 hb hbase
    obtain ⟨A', c', rfl⟩ := shape h2
    exact ⟨A', c', w', hrun, h2, h3, h5⟩

theorem below_of_grown {w' : World} {base : Nat} {A : Option Addr} {n c : Nat} {xs : List Value} (hown : w.ownsRow base e size (.slice A n c) n xs)
    (hg : w.grownBy w' (Value.ownBlock (.slice A n c))) (hbase : base ≤ w.heap.size) : Below base w w' :=
  (Below.refl _ _).grown hg hbase (fun k hk => (hown.lt k hk).1)

/-- 'append(s, x...)', s owned, x seen. -/
theorem wl_append (T : ElemTy P t e z size bytes) {base n c m d k : Nat} {A B : Option Addr} {xs ys zs : List Value}
    (hown : w.ownsRow base e size (.slice A n c) n xs) {e' : Option TypeId} (hr : Sees w e' size B m ys) (hk : n + m = k) (hz : xs ++ ys = zs) (h1 : ∀ u ∈ ys, u.oneCell' = true)
    (hb : k * bytes ≤ 140737488355328) (hbase : base ≤ w.heap.size)
    {ops : Array Oper} {rest : List Oper} {o : Oper} {a : Act} {Q : Exit → Act → World → Prop} {s x : Operand} (hgd : o.guard = none)
    (ho : o.op = .call { callee := .builtin .append, args := #[s, x], argTypes := #[t, t] })
    (hs : a.eval s = .slice A n c) (hx : a.eval x = .slice B m d)
    (h : ∀ A' c' w', w'.ownsRow base e size (.slice A' k c') k zs → Below base w w' → w.grownBy w' (Value.ownBlock (.slice A n c)) →
      (Value.ownBlock (.slice A' k c') = Value.ownBlock (.slice A n c) ∨ Value.ownBlock (.slice A' k c') = some w.heap.size) →
      wpList P ops Q rest (a.put o.dst (.slice A' k c')) w') : wpList P ops Q (o :: rest) a w := by
  subst hk
  subst hz
  obtain ⟨A', c', w', hrun, h2, h3, h4⟩ := run_append_sees T o.type (d := d) hown hr h1 hb hbase
  refine wpList_plain hgd fun K hK => ?_
  unfold Oper.wp execOp
  simp only [ho, resolve, invoke, builtin, Sem.run_bind, Sem.run_pure, Result.andThen_ok, List.map_toArray, List.map_cons, List.map_nil, hs, hx, hrun]
  exact hK _ _ (h A' c' w' h2 (below_of_grown hown h3 hbase) h3 h4)

/-- 'copy(d, s)' onto an owned row, all of s fitting. -/
theorem wl_copy (T : ElemTy P t e z 1 bytes) {base n c m d : Nat} {A B : Option Addr} {xs ys : List Value}
    (hown : w.ownsRow base e 1 (.slice A n c) n xs) {e' : Option TypeId} (hr : Sees w e' 1 B m ys) (hmn : m ≤ n) (h1 : ∀ u ∈ ys, u.oneCell' = true)
    {ops : Array Oper} {rest : List Oper} {o : Oper} {a : Act} {Q : Exit → Act → World → Prop} {s x : Operand} (hgd : o.guard = none) {tx : TypeId}
    (ho : o.op = .call { callee := .builtin .copy, args := #[s, x], argTypes := #[t, tx] })
    (hs : a.eval s = .slice A n c) (hx : a.eval x = .slice B m d)
    (h : ∀ w', w'.ownsRow base e 1 (.slice A n c) n (ys ++ xs.drop m) → Below base w w' → w.grownBy w' (Value.ownBlock (.slice A n c)) →
      wpList P ops Q rest (a.put o.dst (goInt m)) w') : wpList P ops Q (o :: rest) a w := by
  have hym : ys.length = m := by have := hr.1; omega
  rcases hown.2 with ⟨hv, h0⟩ | ⟨g, cap, cur, hv, hbg, hg, hnc, hcm, hcs, htk⟩
  · have hm : m = 0 := by omega
    subst hm
    have hy := hr.empty
    subst hy
    refine wpList_copy_nothing hgd s x t tx ho e T.ht T.one A B n c 0 d hs hx (by simp) ?_
    exact h w (by simpa using hown) (Below.refl _ _) (World.grownBy.refl w _)
  · injection hv with hA _ hc'
    subst hA
    subst hc'
    rcases Nat.eq_zero_or_pos m with hm | hm
    · subst hm
      have hy := hr.empty
      subst hy
      refine wpList_copy_nothing hgd s x t tx ho e T.ht T.one _ B n c 0 d hs hx (by simp) ?_
      exact h w (by simpa using hown) (Below.refl _ _) (World.grownBy.refl w _)
    · obtain ⟨ad, rfl⟩ := hr.addr hm
      refine wpList_copy_own hgd s x t tx ho e T.ht T.one g 0 n c ad m d hs hx cur e hg ys (by rw [hym]; exact (Nat.min_eq_left hmn).symm) (hr.2.2 ad rfl).2 (by omega) h1 ?_
      rw [hym]
      refine h _ ⟨?_, .inr ⟨g, c, _, rfl, hbg, setRow_heap w g cur _ e (0, 0) hg, hnc, hcm, ?_, ?_⟩⟩ (below_setRow (Below.refl _ _) hbg _) ⟨rfl, rfl, rfl, by simp [World.setRow], fun k hk hne => setRow_other w g k _ (fun e => hne (by simp [Value.ownBlock, e]))⟩
      · have := hown.1
        simp only [List.length_append, List.length_drop]
        omega
      · simp only [List.size_toArray, List.length_append, List.length_take, List.length_drop, Array.length_toList]
        omega
      · rw [← htk]
        simp only [Nat.zero_add, List.take_zero, List.nil_append, Nat.mul_one]
        rw [List.take_append, List.take_of_length_le (by omega), hym, List.drop_take]
end
end Go.Proofs.YtpgfhkbnngjegaaGreatDoor

namespace Go.Proofs.YtpgfhkbnngjegaaGreatDoor
def gl : Nat → Option (List Value) := fun _ => none
/-- Tables, whole. -/
def glO : Nat → Option (Array Value) := fun _ => none
/-- Variables that hold an interface value. -/
def glI : Nat → Bool := fun _ => false
end Go.Proofs.YtpgfhkbnngjegaaGreatDoor
