/- The laws of append, make and copy over the words of the memory text, for any program; a door that stops the walk ahead of an operation. Conditions: those of each law. -/
import Derived.Test.YtmhmldpccccjbaaMem
import Derived.Maps.AppendAt
import Derived.Laws.CopyOwn
import Derived.OwnWalk
import Derived.BigFrame
namespace Go.Proofs.Ytmhmldpccccjbaa
open Go.RowKit

/-- A door: the walk stops where the goal stands behind it. -/
def Door (p : Prop) : Prop := p
theorem Door.enter {p : Prop} (h : Door p) : p := h
theorem Door.leave {p : Prop} (h : p) : Door p := h

/-- What the laws ask of a slice type t of elements e. -/
structure ElemTy (P : Program) (t e : TypeId) (z : Value) (size bytes : Nat) : Prop where
  ht : P.underlying t = some (.slice e)
  hi : (P.info? e).map (fun i => (i.zero, i.size, i.bytes)) = some (some z, size, bytes)
  hzs : z.cells.size = size
  hsz : 0 < size
  hby : 0 < bytes

theorem ElemTy.one {P : Program} {t e : TypeId} {z : Value} {bytes : Nat} (T : ElemTy P t e z 1 bytes) : (P.info? e).map (·.size) = some 1 := by
  obtain ⟨i, hi, _, hs, _⟩ := info_parts T.hi
  simp [hi, hs]

theorem sees_lit (w : World) (cs : Array Value) (t : TypeId) (size n : Nat) (hs : cs.size = n * size) :
    Sees (w.alloc (.cells cs t)) (some t) size (some ⟨w.heap.size, 0, none⟩) n cs.toList := by
  refine ⟨by simpa using hs, (by simp), fun ad ha => ?_⟩
  injection ha with ha
  subst ha
  refine ⟨fun _ => ⟨cs, t, (0, 0), heap_alloc_new w _, fun _ ht => Option.some.inj ht⟩, fun j u hu => ?_⟩
  have hadd : (⟨w.heap.size, 0, none⟩ : Addr).add j = ⟨w.heap.size, j, none⟩ := by unfold Addr.add; split <;> simp_all
  rw [hadd, cell_of_row _ w.heap.size j cs t (0, 0) (heap_alloc_new w _)]
  simpa using hu

/-- A cell of an owned row, by its place. -/
theorem own_at {w : World} {base : Nat} {e : TypeId} {n c k : Nat} {A : Option Addr} {xs : List Value} (h : w.ownsRow base e 1 (.slice A n c) n xs) (hk : k < n) :
    ∃ g u, A = some ⟨g, 0, none⟩ ∧ base ≤ g ∧ g < w.heap.size ∧ xs[k]? = some u ∧ w.cell? ⟨g, k, none⟩ = some u ∧ w.frozen? ⟨g, k, none⟩ = false := by
  obtain ⟨g, cap, hv, hb, hlt⟩ := h.form (by omega)
  have hA : A = some ⟨g, 0, none⟩ := by injection hv
  subst hA
  have hl : k < xs.length := by have := h.1; omega
  refine ⟨g, xs[k], rfl, hb, hlt, List.getElem?_eq_getElem hl, ?_, h.frozenAt k⟩
  rw [h.cellAt k (by omega)]
  exact List.getElem?_eq_getElem hl

theorem own_cap {w : World} {base : Nat} {e : TypeId} {size n c : Nat} {A : Option Addr} {xs : List Value} (h : w.ownsRow base e size (.slice A n c) n xs) : n ≤ c ∧ c ≤ maxLen := by
  rcases h.2 with ⟨hv, h0⟩ | ⟨g, cap, cur, hv, _, _, hnc, hcm, _⟩
  · injection hv with _ _ hc
    subst hc
    exact ⟨by omega, by simp [maxLen]⟩
  · injection hv with _ _ hc
    subst hc
    exact ⟨hnc, hcm⟩

theorem own_below {w w' : World} {base : Nat} {e : TypeId} {size n : Nat} {v : Value} {xs : List Value} (h : w.ownsRow base e size v n xs) (hb : Below w.heap.size w w') : w'.ownsRow base e size v n xs := by
  refine ⟨h.1, ?_⟩
  rcases h.2 with hn | ⟨g, cap, cur, hv, hb', hg, r⟩
  · exact .inl hn
  · exact .inr ⟨g, cap, cur, hv, hb', by rw [hb.block g (Array.getElem?_eq_some_iff.1 hg).1]; exact hg, r⟩

/-- A store into an owned row. -/
theorem own_put {w : World} {base g : Nat} {e : TypeId} {n c : Nat} {xs : List Value} (h : w.ownsRow base e 1 (.slice (some ⟨g, 0, none⟩) n c) n xs) (k : Nat) (u : Value) :
    (w.setCell ⟨g, k, none⟩ u).ownsRow base e 1 (.slice (some ⟨g, 0, none⟩) n c) n (xs.set k u) := (h.stored k u).1

section
variable {P : Program} {w : World} {t e : TypeId} {z : Value} {size bytes : Nat}

theorem run_append_sees (T : ElemTy P t e z size bytes) (ty : TypeId) {base n c m d : Nat} {A B : Option Addr} {xs ys : List Value}
    (hown : w.ownsRow base e size (.slice A n c) n xs) {e' : Option TypeId} (hr : Sees w e' size B m ys) (h1 : ∀ u ∈ ys, u.oneCell' = true)
    (hb : (n + m) * bytes ≤ 140737488355328) (hbase : base ≤ w.heap.size) :
    ∃ A' c' w', (Builtin.append_ #[t, t] ty #[.slice A n c, .slice B m d]).run P w = .ok (.slice A' (n + m) c') w' ∧
      w'.ownsRow base e size (.slice A' (n + m) c') (n + m) (xs ++ ys) ∧ w.grownBy w' (Value.ownBlock (.slice A n c)) ∧
      (Value.ownBlock (.slice A' (n + m) c') = Value.ownBlock (.slice A n c) ∨ Value.ownBlock (.slice A' (n + m) c') = some w.heap.size) := by
  obtain ⟨i, hi, hz, hs, hy⟩ := info_parts T.hi
  have h63 : n + m ≤ maxLen := by
    have := Nat.le_mul_of_pos_right (n + m) T.hby
    simp only [maxLen]
    omega
  have shape : ∀ {v' : Value} {w' : World}, w'.ownsRow base e size v' (n + m) (xs ++ ys) → ∃ A' c', v' = .slice A' (n + m) c' := by
    intro v' w' h
    rcases h.2 with ⟨rfl, h0⟩ | ⟨g, cap, cur, rfl, _⟩
    · exact ⟨none, 0, by rw [h0]⟩
    · exact ⟨_, _, rfl⟩
  rcases B with _ | ad
  · have hm : m = 0 := hr.2.1 rfl
    subst hm
    have hn := hr.empty
    subst hn
    have hrun : (Builtin.append_ #[t, t] ty #[.slice A n c, .slice none 0 d]).run P w = .ok (.slice A n c) w := by
      rcases hown.2 with ⟨hv, rfl⟩ | ⟨g, cap, cur, hv, _, _, hnc, _⟩
      · rw [hv]
        simp [Builtin.append_, run_underlying T.ht, sizeOf, typeInfo, hi, Builtin.lenOf, Builtin.firstCells]
      · rw [hv]
        simp [Builtin.append_, run_underlying T.ht, sizeOf, typeInfo, hi, Builtin.lenOf, Builtin.firstCells, hnc, storeCells]
    exact ⟨A, c, w, hrun, by simpa using hown, World.grownBy.refl w _, .inl rfl⟩
  · obtain ⟨v', w', hrun, h2, h3, _, h5⟩ := run_append_own_at (P := P) w base t ty e i z size bytes T.ht hi hz hs hy T.hzs T.hsz _ n xs hown ad m d ys hr.1 (hr.2.2 ad rfl).2 h1 h63 hb hbase
    obtain ⟨A', c', rfl⟩ := shape h2
    exact ⟨A', c', w', hrun, h2, h3, h5⟩

theorem below_of_grown {w' : World} {base : Nat} {A : Option Addr} {n c : Nat} {xs : List Value} (hown : w.ownsRow base e size (.slice A n c) n xs)
    (hg : w.grownBy w' (Value.ownBlock (.slice A n c))) (hbase : base ≤ w.heap.size) : Below base w w' :=
  (Below.refl _ _).grown hg hbase (fun k hk => (hown.lt k hk).1)

/-- 'append(s, x...)', s owned, x seen. -/
theorem wl_append (T : ElemTy P t e z size bytes) {base n c m d k : Nat} {A B : Option Addr} {xs ys zs : List Value}
    (hown : w.ownsRow base e size (.slice A n c) n xs) {e' : Option TypeId} (hr : Sees w e' size B m ys) (hk : n + m = k) (hz : xs ++ ys = zs) (h1 : ∀ u ∈ ys, u.oneCell' = true)
    (hb : k * bytes ≤ 140737488355328) (hbase : base ≤ w.heap.size)
    {ops : Array Oper} {rest : List Oper} {o : Oper} {a : Act} {Q : Exit → Act → World → Prop} {s x : Operand} (hgd : o.guard = none)
    (ho : o.op = .call { callee := .builtin .append, args := #[s, x], argTypes := #[t, t] })
    (hs : a.eval s = .slice A n c) (hx : a.eval x = .slice B m d)
    (h : ∀ A' c' w', w'.ownsRow base e size (.slice A' k c') k zs → Below base w w' → w.grownBy w' (Value.ownBlock (.slice A n c)) →
      (Value.ownBlock (.slice A' k c') = Value.ownBlock (.slice A n c) ∨ Value.ownBlock (.slice A' k c') = some w.heap.size) →
      wpList P ops Q rest (a.put o.dst (.slice A' k c')) w') : wpList P ops Q (o :: rest) a w := by
  subst hk
  subst hz
  obtain ⟨A', c', w', hrun, h2, h3, h4⟩ := run_append_sees T o.type (d := d) hown hr h1 hb hbase
  refine wpList_plain hgd fun K hK => ?_
  unfold Oper.wp execOp
  simp only [ho, resolve, invoke, builtin, Sem.run_bind, Sem.run_pure, Result.andThen_ok, List.map_toArray, List.map_cons, List.map_nil, hs, hx, hrun]
  exact hK _ _ (h A' c' w' h2 (below_of_grown hown h3 hbase) h3 h4)

/-- 'append(s, x1, ..)', s owned; the values lie in a block that was just made. -/
theorem wl_append_lit (T : ElemTy P t e z size bytes) {base n c m k : Nat} {A : Option Addr} {xs zs : List Value} {cs : Array Value}
    (hown : w.ownsRow base e size (.slice A n c) n xs) (hcs : cs.size = m * size) (hk : n + m = k) (hz : xs ++ cs.toList = zs) (h1 : ∀ u ∈ cs.toList, u.oneCell' = true)
    (hb : k * bytes ≤ 140737488355328) (hbase : base ≤ w.heap.size)
    {ops : Array Oper} {rest : List Oper} {o : Oper} {a : Act} {Q : Exit → Act → World → Prop} {s x : Operand} (hgd : o.guard = none)
    (ho : o.op = .call { callee := .builtin .append, args := #[s, x], argTypes := #[t, t] })
    (hs : a.eval s = .slice A n c) (hx : a.eval x = .slice (some ⟨w.heap.size, 0, none⟩) m m)
    (h : ∀ A' c' w', w'.ownsRow base e size (.slice A' k c') k zs → Below base w w' → w.grownBy w' (Value.ownBlock (.slice A n c)) →
      (Value.ownBlock (.slice A' k c') = Value.ownBlock (.slice A n c) ∨ ∃ g, w.heap.size ≤ g ∧ Value.ownBlock (.slice A' k c') = some g) →
      wpList P ops Q rest (a.put o.dst (.slice A' k c')) w') : wpList P ops Q (o :: rest) a (w.alloc (.cells cs e)) := by
  refine wl_append T (hown.alloc _) (sees_lit w cs e size m hcs) hk hz h1 hb (by simp; omega) hgd ho hs hx fun A' c' w' h2 h3 h4 h5 => ?_
  refine h A' c' w' h2 ((((Below.refl _ _).alloc hbase _)).trans h3) ?_ ?_
  · exact (World.grownBy_alloc w _ _).trans h4
  · rcases h5 with h5 | h5
    · exact .inl h5
    · exact .inr ⟨_, by simp, h5⟩

/-- 'make([]T, n, c)'. -/
theorem wl_make (T : ElemTy P t e z 1 bytes) {base n c : Nat} {N C : Int} {kl kc : IntKind} (hN : N = (n : Int)) (hC : C = (c : Int)) (hnc : n ≤ c) (hb : c * bytes ≤ 140737488355328) (hbase : base ≤ w.heap.size) (hz1 : z.cells = #[z])
    {ops : Array Oper} {rest : List Oper} {o : Oper} {a : Act} {Q : Exit → Act → World → Prop} {l c0 : Operand} (hgd : o.guard = none)
    (ho : o.op = Op.makeSlice t l c0) (hl : a.eval l = .int kl N) (hc : a.eval c0 = .int kc C)
    (h : ∀ A' w', w'.ownsRow base e 1 (.slice A' n c) n (List.replicate n z) → Below w.heap.size w w' → Value.ownBlock (.slice A' n c) = some w.heap.size →
      wpList P ops Q rest (a.put o.dst (.slice A' n c)) w') : wpList P ops Q (o :: rest) a w := by
  obtain ⟨i, hi, hz, hs, hy⟩ := info_parts T.hi
  subst hN
  subst hC
  have hc0 := Nat.le_mul_of_pos_right c T.hby
  have hb2 : (i.bytes : Int) * (c : Int) ≤ 281474976710656 := by
    rw [hy]
    have : ((bytes * c : Nat) : Int) ≤ 281474976710656 := by rw [Nat.mul_comm]; omega
    rwa [Int.natCast_mul] at this
  have hr := run_make (P := P) w t e i z T.ht hi hz kl kc n c (by omega) (by omega) hb2 (by omega)
  simp only [Int.toNat_natCast, hs, Nat.mul_one] at hr
  refine wpList_plain hgd fun K hK => ?_
  unfold Oper.wp
  simp [execOp, ho, hl, hc, hr, Result.andThen]
  refine hK _ _ (h _ _ ⟨by simp, .inr ⟨w.heap.size, c, _, rfl, hbase, heap_alloc_new w _, hnc, by simp only [maxLen]; omega, by rw [size_madeCells]; simp, ?_⟩⟩ ((Below.refl _ _).alloc (Nat.le_refl _) _) rfl)
  rw [hz1, toList_madeCells_one, List.take_replicate]
  congr 1
  omega

/-- 'copy(d, s)' onto an owned row, all of s fitting. -/
theorem wl_copy (T : ElemTy P t e z 1 bytes) {base n c m d : Nat} {A B : Option Addr} {xs ys : List Value}
    (hown : w.ownsRow base e 1 (.slice A n c) n xs) {e' : Option TypeId} (hr : Sees w e' 1 B m ys) (hmn : m ≤ n) (h1 : ∀ u ∈ ys, u.oneCell' = true)
    {ops : Array Oper} {rest : List Oper} {o : Oper} {a : Act} {Q : Exit → Act → World → Prop} {s x : Operand} (hgd : o.guard = none) {tx : TypeId}
    (ho : o.op = .call { callee := .builtin .copy, args := #[s, x], argTypes := #[t, tx] })
    (hs : a.eval s = .slice A n c) (hx : a.eval x = .slice B m d)
    (h : ∀ w', w'.ownsRow base e 1 (.slice A n c) n (ys ++ xs.drop m) → Below base w w' → w.grownBy w' (Value.ownBlock (.slice A n c)) →
      wpList P ops Q rest (a.put o.dst (goInt m)) w') : wpList P ops Q (o :: rest) a w := by
  have hym : ys.length = m := by have := hr.1; omega
  rcases hown.2 with ⟨hv, h0⟩ | ⟨g, cap, cur, hv, hbg, hg, hnc, hcm, hcs, htk⟩
  · have hm : m = 0 := by omega
    subst hm
    have hy := hr.empty
    subst hy
    refine wpList_copy_nothing hgd s x t tx ho e T.ht T.one A B n c 0 d hs hx (by simp) ?_
    exact h w (by simpa using hown) (Below.refl _ _) (World.grownBy.refl w _)
  · injection hv with hA _ hc'
    subst hA
    subst hc'
    rcases Nat.eq_zero_or_pos m with hm | hm
    · subst hm
      have hy := hr.empty
      subst hy
      refine wpList_copy_nothing hgd s x t tx ho e T.ht T.one _ B n c 0 d hs hx (by simp) ?_
      exact h w (by simpa using hown) (Below.refl _ _) (World.grownBy.refl w _)
    · obtain ⟨ad, rfl⟩ := hr.addr hm
      refine wpList_copy_own hgd s x t tx ho e T.ht T.one g 0 n c ad m d hs hx cur e hg ys (by rw [hym]; exact (Nat.min_eq_left hmn).symm) (hr.2.2 ad rfl).2 (by omega) h1 ?_
      rw [hym]
      refine h _ ⟨?_, .inr ⟨g, c, _, rfl, hbg, setRow_heap w g cur _ e (0, 0) hg, hnc, hcm, ?_, ?_⟩⟩ (below_setRow (Below.refl _ _) hbg _) ⟨rfl, rfl, rfl, by simp [World.setRow], fun k hk hne => setRow_other w g k _ (fun e => hne (by simp [Value.ownBlock, e]))⟩
      · have := hown.1
        simp only [List.length_append, List.length_drop]
        omega
      · simp only [List.size_toArray, List.length_append, List.length_take, List.length_drop, Array.length_toList]
        omega
      · rw [← htk]
        simp only [Nat.zero_add, List.take_zero, List.nil_append, Nat.mul_one]
        rw [List.take_append, List.take_of_length_le (by omega), hym, List.drop_take]
/-- 'make([]T, n, c)': the block that it lays, whole. -/
theorem wl_make_blk (T : ElemTy P t e z 1 bytes) {n c : Nat} {N C : Int} {kl kc : IntKind} (hN : N = (n : Int)) (hC : C = (c : Int)) (hnc : n ≤ c) (hb : c * bytes ≤ 140737488355328) (hz1 : z.cells = #[z])
    {ops : Array Oper} {rest : List Oper} {o : Oper} {a : Act} {Q : Exit → Act → World → Prop} {l c0 : Operand} (hgd : o.guard = none)
    (ho : o.op = Op.makeSlice t l c0) (hl : a.eval l = .int kl N) (hc : a.eval c0 = .int kc C)
    (h : ∀ w', Blk w' w.heap.size e (List.replicate c z).toArray → Below w.heap.size w w' → w.heap.size < w'.heap.size →
      wpList P ops Q rest (a.put o.dst (.slice (some ⟨w.heap.size, 0, none⟩) n c)) w') : wpList P ops Q (o :: rest) a w := by
  obtain ⟨i, hi, hz, hs, hy⟩ := info_parts T.hi
  subst hN
  subst hC
  have hc0 := Nat.le_mul_of_pos_right c T.hby
  have hb2 : (i.bytes : Int) * (c : Int) ≤ 281474976710656 := by
    rw [hy]
    have : ((bytes * c : Nat) : Int) ≤ 281474976710656 := by rw [Nat.mul_comm]; omega
    rwa [Int.natCast_mul] at this
  have hr := run_make (P := P) w t e i z T.ht hi hz kl kc n c (by omega) (by omega) hb2 (by omega)
  simp only [Int.toNat_natCast, hs, Nat.mul_one] at hr
  refine wpList_plain hgd fun K hK => ?_
  unfold Oper.wp
  simp [execOp, ho, hl, hc, hr, Result.andThen]
  have hm : madeCells z.cells c = (List.replicate c z).toArray := by rw [hz1, ← toList_madeCells_one]
  rw [hm]
  exact hK _ _ (h _ (Blk.new _ _ _) ((Below.refl _ _).alloc (Nat.le_refl _) _) (by simp))

/-- 'copy(d, s)' to the head of a block that is known whole, all of s fitting. -/
theorem wl_copy_blk (T : ElemTy P t e z 1 bytes) {g n c m d : Nat} {B : Option Addr} {xs ys : List Value}
    (hblk : Blk w g e xs.toArray) {e' : Option TypeId} (hr : Sees w e' 1 B m ys) (hmn : m ≤ n) (hmx : m ≤ xs.length) (h1 : ∀ u ∈ ys, u.oneCell' = true)
    {ops : Array Oper} {rest : List Oper} {o : Oper} {a : Act} {Q : Exit → Act → World → Prop} {s x : Operand} (hgd : o.guard = none) {tx : TypeId}
    (ho : o.op = .call { callee := .builtin .copy, args := #[s, x], argTypes := #[t, tx] })
    (hs : a.eval s = .slice (some ⟨g, 0, none⟩) n c) (hx : a.eval x = .slice B m d)
    (h : ∀ w', Blk w' g e (ys ++ xs.drop m).toArray → w.grownBy w' (some g) → wpList P ops Q rest (a.put o.dst (goInt m)) w') : wpList P ops Q (o :: rest) a w := by
  have hym : ys.length = m := by have := hr.1; omega
  rcases Nat.eq_zero_or_pos m with hm | hm
  · subst hm
    have hy := hr.empty
    subst hy
    refine wpList_copy_nothing hgd s x t tx ho e T.ht T.one _ B n c 0 d hs hx (by simp) ?_
    exact h w (by simpa using hblk) (World.grownBy.refl w _)
  · obtain ⟨ad, rfl⟩ := hr.addr hm
    refine wpList_copy_own hgd s x t tx ho e T.ht T.one g 0 n c ad m d hs hx xs.toArray e hblk ys (by rw [hym]; exact (Nat.min_eq_left hmn).symm) (hr.2.2 ad rfl).2 (by simp; omega) h1 ?_
    rw [hym]
    refine h _ ?_ ⟨rfl, rfl, rfl, by simp [World.setRow], fun k hk hne => setRow_other w g k _ (fun e => hne (by simp [e]))⟩
    have := setRow_heap w g xs.toArray (ys ++ xs.drop m).toArray e (0, 0) hblk
    unfold Blk
    simpa [hym] using this

/-- A block that is known whole, as a slice from its head. -/
theorem Blk.sees {g : Nat} {xs : List Value} (hb : Blk w g e xs.toArray) {n : Nat} (hn : n ≤ xs.length) : Sees w (some e) 1 (some ⟨g, 0, none⟩) n (xs.take n) := by
  refine ⟨by simp; omega, by simp, fun ad ha => ?_⟩
  injection ha with ha
  subst ha
  refine ⟨fun _ => ⟨_, e, (0, 0), hb, fun _ ht => Option.some.inj ht⟩, fun j u hu => ?_⟩
  have hadd : (⟨g, 0, none⟩ : Addr).add j = ⟨g, j, none⟩ := by unfold Addr.add; split <;> simp_all
  rw [hadd, hb.cell j]
  rw [List.getElem?_take] at hu
  split at hu
  · simpa using hu
  · cases hu
end
end Go.Proofs.Ytmhmldpccccjbaa
