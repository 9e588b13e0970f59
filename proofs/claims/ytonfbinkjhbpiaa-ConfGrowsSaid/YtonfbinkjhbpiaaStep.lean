/- Steps of a region that draws its order: an append to a literal without elements. No condition. -/
import Derived.Test.YtonfbinkjhbpiaaLaw
import Derived.Deep.RegionLawGrows
namespace Go.Proofs.Ytonfbinkjhbpiaa
open Go.RowKit
set_option linter.unusedSimpArgs false

theorem wp_append_empty {P : Program} {w : World} {t e : TypeId} {z : Value} {size bytes : Nat} (T : ElemTy P t e z size bytes) {g m d : Nat} {B : Option Addr} {ys : List Value} {e' : Option TypeId}
    (hr : Sees w e' size B m ys) (h1 : ∀ u ∈ ys, u.oneCell' = true) (hb : m * bytes ≤ 140737488355328)
    {o : Oper} {a : Act} {K : Act → World → Prop} {Q : Exit → Act → World → Prop} {s x : Operand} (hgd : o.guard = none)
    (ho : o.op = .call { callee := .builtin .append, args := #[s, x], argTypes := #[t, t] })
    (hs : a.eval s = .slice (some ⟨g, 0, none⟩) 0 0) (hx : a.eval x = .slice B m d)
    (h : ∀ A' c' w', Sees w' (some e) size A' m ys → Below w.heap.size w w' → K (a.put o.dst (.slice A' m c')) w') :
    Oper.wp P o a w K Q := by
  have hw : Region.wanted o (yielded #[] a.tmps) = true := by simp [Region.wanted, hgd]
  obtain ⟨i, hi, hz, hsz, hy⟩ := info_parts T.hi
  rcases Nat.eq_zero_or_pos m with hm | hm
  · subst hm
    have hn := hr.empty
    subst hn
    have hrun : (Builtin.append_ #[t, t] o.type #[.slice (some ⟨g, 0, none⟩) 0 0, .slice B 0 d]).run P w = .ok (.slice (some ⟨g, 0, none⟩) 0 0) w := by
      rcases B with _ | ad
      · simp [Builtin.append_, run_underlying T.ht, sizeOf, typeInfo, hi, Builtin.lenOf, Builtin.firstCells, storeCells]
      · simp [Builtin.append_, run_underlying T.ht, sizeOf, typeInfo, hi, Builtin.lenOf, Builtin.firstCells, storeCells, loadCells, loadCellsFrom, Result.andThen]
    unfold Oper.wp execOp
    simp only [ho, resolve, invoke, builtin, Sem.run_bind, Sem.run_pure, Result.andThen_ok, List.map_toArray, List.map_cons, List.map_nil, hs, hx, hrun]
    exact h _ _ _ ⟨by simp, by simp, fun ad _ => ⟨fun h0 => absurd h0 (by omega), fun j u hu => by simp at hu⟩⟩ (Below.refl _ _)
  · obtain ⟨ad, rfl⟩ := hr.addr hm
    have key := step_append_grows (P := P) (ops := #[]) (o := o) (a := a) (w := w) (K := K) (Q := Q) (E := True) hgd s x t ho e i z size bytes T.ht hi hz hsz hy T.hzs T.hsz (some ⟨g, 0, none⟩) 0 0 [] hs (by simp) (by simp) (by simp) ad m d ys hx hr.1 (hr.2.2 ad rfl).2 h1 (by omega) (by have := Nat.le_mul_of_pos_right m T.hby; simp only [maxLen]; omega) (by rw [Nat.zero_add]; exact hb) ?_
    · rw [if_pos hw] at key
      exact key
    · intro v' w' hown hg
      have : ∃ A' c', v' = .slice A' m c' := by
        rcases hown.2 with ⟨rfl, h0⟩ | ⟨g, cap, cur, rfl, _⟩
        · omega
        · exact ⟨_, _, by rw [Nat.zero_add]⟩
      obtain ⟨A', c', rfl⟩ := this
      rw [Nat.zero_add, List.nil_append] at hown
      exact h _ _ _ (Sees.of_own hown) ((Below.refl _ _).grown hg (Nat.le_refl _) (fun k hk => by cases hk))
end Go.Proofs.Ytonfbinkjhbpiaa
