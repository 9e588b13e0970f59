/- A region with an append to an owned row: what its operations keep. No condition. -/
import Derived.Test.YtonfbinkjhbpiaaG4
import Derived.Test.YtonfbinkjhbpiaaParR
namespace Go.Proofs.Ytonfbinkjhbpiaa
open Go.RowKit Go.Shelf
set_option linter.unusedVariables false
set_option linter.unusedSimpArgs false

/-- Nothing but the row's block is written; the row stands; what once reads as the longer row does so on. -/
def RK (T : TypeId) (s base q c k : Nat) (B : Option Addr) (xs zs : List Value) (a b : World) : Prop :=
  a.grownBy b (Value.ownBlock (.slice B q c)) ∧ (a.ownsRow base T s (.slice B q c) q xs → b.ownsRow base T s (.slice B q c) q xs) ∧ (a.ownsRow base T s (.slice B k c) k zs → b.ownsRow base T s (.slice B k c) k zs)
section
variable {T : TypeId} {s base q c k : Nat} {B : Option Addr} {xs zs : List Value} {a b w w' : World}
theorem RK.below (h : Below a.heap.size a b) : RK T s base q c k B xs zs a b := ⟨grown_below h _, fun h' => own_below h' h, fun h' => own_below h' h⟩
theorem RK.drew : RK T s base q c k B xs zs w w.drew := ⟨⟨rfl, rfl, rfl, Nat.le_refl _, fun _ _ _ => rfl⟩, fun h => h, fun h => h⟩
theorem RK.trans {d : World} (h : RK T s base q c k B xs zs a b) (h2 : RK T s base q c k B xs zs b d) : RK T s base q c k B xs zs a d := ⟨grown_trans h.1 h2.1, fun x => h2.2.1 (h.2.1 x), fun x => h2.2.2 (h.2.2 x)⟩
theorem RK.size (h : RK T s base q c k B xs zs a b) : a.heap.size ≤ b.heap.size := h.1.size
theorem RK.low (hown : a.ownsRow base T s (.slice B q c) q xs) (hbase : base ≤ a.heap.size) (h : RK T s base q c k B xs zs a b) : Below base a b := below_of_grown hown h.1 hbase

/-- What the longer row's slot holds. -/
def AppR (T : TypeId) (s base q c k : Nat) (B : Option Addr) (zs : List Value) (A' : Option Addr) (c' : Nat) (w : World) : Prop :=
  ∃ base', w.ownsRow base' T s (.slice A' k c') k zs ∧ ((base' = base ∧ A' = B ∧ c' = c) ∨ Value.ownBlock (.slice A' k c') = none ∨ Value.ownBlock (.slice A' k c') ≠ Value.ownBlock (.slice B q c))
theorem AppR.stab {A' : Option Addr} {c' : Nat} (h : AppR T s base q c k B zs A' c' a) (hr : RK T s base q c k B xs zs a b) : AppR T s base q c k B zs A' c' b := by
  obtain ⟨base', ho, h | h⟩ := h
  · obtain ⟨rfl, rfl, rfl⟩ := h
    exact ⟨_, hr.2.2 ho, .inl ⟨rfl, rfl, rfl⟩⟩
  · exact ⟨base', ho.kept hr.1 h, .inr h⟩
theorem AppR.sees {A' : Option Addr} {c' : Nat} (h : AppR T s base q c k B zs A' c' w) : Sees w (some T) s A' k zs := by
  obtain ⟨_, ho, _⟩ := h
  exact Sees.of_own ho
theorem own_lowB {e : TypeId} {size n : Nat} {v : Value} (h : w.ownsRow base e size v n xs) {Z : Nat} (hb : Below Z w w') (hlt : ∀ g, v.ownBlock = some g → g < Z) : w'.ownsRow base e size v n xs := by
  refine ⟨h.1, ?_⟩
  rcases h.2 with hn | ⟨g, cap, cur, rfl, hb', hg, r⟩
  · exact .inl hn
  · exact .inr ⟨g, cap, cur, rfl, hb', by rw [hb.block g (hlt g rfl)]; exact hg, r⟩
theorem Blk.seesN {g m : Nat} {t : TypeId} {cs : Array Value} (h : Blk w g t cs) (hs : cs.size = m * s) : Sees w (some t) s (some ⟨g, 0, none⟩) m cs.toList := by
  refine ⟨by simpa using hs, by simp, fun ad ha => ?_⟩
  injection ha with ha
  subst ha
  refine ⟨fun _ => ⟨cs, t, (0, 0), h, fun _ ht => Option.some.inj ht⟩, fun j u hu => ?_⟩
  have := h.cell j
  rw [Array.getElem?_toList] at hu
  rw [add_zero', this, hu]
end

set_option maxHeartbeats 800000 in
theorem wp_append_rk {P : Program} {w : World} {t e : TypeId} {z : Value} {size bytes : Nat} (T : ElemTy P t e z size bytes) {base n c m d k : Nat} {A B : Option Addr} {xs ys zs : List Value} {e' : Option TypeId}
    (hown : w.ownsRow base e size (.slice A n c) n xs) (hr : Sees w e' size B m ys) (h1 : ∀ u ∈ ys, u.oneCell' = true) (hk : n + m = k) (hz : xs ++ ys = zs) (hb : k * bytes ≤ 140737488355328) (hbase : base ≤ w.heap.size)
    {o : Oper} {a : Act} {K : Act → World → Prop} {Q : Exit → Act → World → Prop} {s x : Operand} (ho : o.op = .call { callee := .builtin .append, args := #[s, x], argTypes := #[t, t] })
    (hs : a.eval s = .slice A n c) (hx : a.eval x = .slice B m d)
    (h : ∀ A' c' w', AppR e size base n c k A zs A' c' w' → RK e size base n c k A xs zs w w' → K (a.put o.dst (.slice A' k c')) w') :
    Oper.wp P o a w K Q := by
  subst hk hz
  suffices H : ∃ A' c' w', (Builtin.append_ #[t, t] o.type #[.slice A n c, .slice B m d]).run P w = .ok (.slice A' (n + m) c') w' ∧ AppR e size base n c (n + m) A (xs ++ ys) A' c' w' ∧ RK e size base n c (n + m) A xs (xs ++ ys) w w' by
    obtain ⟨A', c', w', hrun, h2, h3⟩ := H
    unfold Oper.wp execOp
    simp only [ho, resolve, invoke, builtin, Sem.run_bind, Sem.run_pure, Result.andThen_ok, List.map_toArray, List.map_cons, List.map_nil, hs, hx, hrun]
    exact h _ _ _ h2 h3
  obtain ⟨i, hi, hzi, hsz, hy⟩ := info_parts T.hi
  have key := run_append_sees (P := P) T o.type (d := d) hown hr h1 hb hbase
  obtain ⟨A', c', w', hrun, h2, h3, h4⟩ := key
  rcases A with _ | ad
  · obtain ⟨rfl, rfl⟩ : n = 0 ∧ c = 0 := by
      rcases hown.2 with ⟨hv, h0⟩ | ⟨g', cap, cur, hv, _⟩
      · injection hv with _ _ hc; exact ⟨h0, hc⟩
      · cases hv
    have hxs : xs = [] := List.eq_nil_of_length_eq_zero (by simpa using hown.1)
    subst hxs
    refine ⟨A', c', w', hrun, ⟨base, h2, .inr ?_⟩, h3, fun _ => World.ownsRow_nil _ _ _ _, fun ho' => ?_⟩
    · cases hA : Value.ownBlock (.slice A' (0 + m) c') with
      | none => exact .inl rfl
      | some g => exact .inr (by simp [Value.ownBlock])
    · rcases ho'.2 with ⟨hv, h0⟩ | ⟨g', cap, cur, hv, _⟩
      · exact ⟨ho'.1, .inl ⟨hv, h0⟩⟩
      · cases hv
  · obtain ⟨g, hg⟩ : ∃ g, ad = ⟨g, 0, none⟩ := by
      rcases hown.2 with ⟨hv, _⟩ | ⟨g', cap, cur, hv, _⟩
      · cases hv
      · injection hv with hA; injection hA with hA; exact ⟨g', hA⟩
    subst hg
    rcases B with _ | bd
    · have hm : m = 0 := hr.2.1 rfl
      subst hm
      have hn := hr.empty
      subst hn
      have hnc := (own_cap hown).1
      have hrun' : (Builtin.append_ #[t, t] o.type #[.slice (some ⟨g, 0, none⟩) n c, .slice none 0 d]).run P w = .ok (.slice (some ⟨g, 0, none⟩) n c) w := by
        simp [Builtin.append_, run_underlying T.ht, sizeOf, typeInfo, hi, Builtin.lenOf, Builtin.firstCells, hnc, storeCells]
      exact ⟨some ⟨g, 0, none⟩, c, w, hrun', ⟨base, by simpa using hown, .inl ⟨rfl, rfl, rfl⟩⟩, RK.below (Below.refl _ _)⟩
    · by_cases hroom : n + m ≤ c
      · obtain ⟨w', hrun, h2, h3⟩ := run_append_fits (P := P) w base t o.type e i size T.ht hi hsz g n c xs hown bd m d ys hr.1 (hr.2.2 bd rfl).2 h1 hroom
        exact ⟨_, _, w', hrun, ⟨base, h2, .inl ⟨rfl, rfl, rfl⟩⟩, h3, fun _ => own_shrink h2 hown.1, fun _ => h2⟩
      · obtain ⟨v', w', hrun, r1, r2⟩ := run_append_arg_grows (P := P) w t o.type e i z size bytes T.ht hi hzi hsz hy T.hzs T.hsz ⟨g, 0, none⟩ n c xs hown.1 (hown.cells rfl) bd m d ys hr.1 (hr.2.2 bd rfl).2 (by omega)
          (by have := Nat.le_mul_of_pos_right (n + m) T.hby; simp only [maxLen]; omega) hb
        have : ∃ A' c', v' = .slice A' (n + m) c' := by
          rcases r1.2 with ⟨rfl, h0⟩ | ⟨g', cap, cur, rfl, _⟩
          · exact ⟨none, 0, by rw [h0]⟩
          · exact ⟨_, _, rfl⟩
        obtain ⟨A', c', rfl⟩ := this
        have hlt := (hown.lt g (by simp [Value.ownBlock])).2
        have hgg : w.grownBy w' (some g) := ⟨r2.os, r2.tape, r2.output, r2.size, fun k hk _ => r2.block k hk (by simp)⟩
        refine ⟨A', c', w', hrun, ⟨_, r1, .inr ?_⟩, hgg, fun ho' => ho'.kept r2 (.inr (by simp [Value.ownBlock])), fun ho' => ho'.kept r2 (.inr (by simp [Value.ownBlock]))⟩
        cases hA : Value.ownBlock (.slice A' (n + m) c') with
        | none => exact .inl rfl
        | some g' =>
          have := (r1.lt g' hA).1
          exact .inr (by simp [Value.ownBlock]; omega)
end Go.Proofs.Ytonfbinkjhbpiaa
