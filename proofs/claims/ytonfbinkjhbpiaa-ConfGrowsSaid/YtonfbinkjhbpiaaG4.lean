/- An append behind an owned row: the row itself reads as it did. No condition. -/
import Derived.Test.YtonfbinkjhbpiaaG3
namespace Go.Proofs.Ytonfbinkjhbpiaa
open Go.RowKit Go.Shelf
set_option linter.unusedVariables false
set_option linter.unusedSimpArgs false

theorem own_shrink {w : World} {base g n m c size : Nat} {e : TypeId} {xs ys : List Value} (h : w.ownsRow base e size (.slice (some ⟨g, 0, none⟩) (n + m) c) (n + m) (xs ++ ys)) (hx : xs.length = n * size) :
    w.ownsRow base e size (.slice (some ⟨g, 0, none⟩) n c) n xs := by
  refine ⟨hx, ?_⟩
  rcases h.2 with ⟨hv, _⟩ | ⟨g', cap, cur, hv, hb, hg, hnc, hcm, hcs, htk⟩
  · cases hv
  · injection hv with h1 h2 h3
    injection h1 with h1
    injection h1 with h1
    subst h1 h3
    refine .inr ⟨g, c, cur, rfl, hb, hg, by omega, hcm, hcs, ?_⟩
    have : cur.toList.take (n * size) = (cur.toList.take ((n + m) * size)).take (n * size) := by
      rw [List.take_take, Nat.min_eq_left (Nat.mul_le_mul_right _ (by omega))]
    rw [this, htk, ← hx, List.take_left]

/-- 'append(s, x...)' on an owned row: what stood in it stands. -/
theorem wp_append_keep {P : Program} {w : World} {t e : TypeId} {z : Value} {size bytes : Nat} (T : ElemTy P t e z size bytes) {base g n c m d : Nat} {B : Option Addr} {xs ys : List Value} {e' : Option TypeId}
    (hown : w.ownsRow base e size (.slice (some ⟨g, 0, none⟩) n c) n xs) (hr : Sees w e' size B m ys) (h1 : ∀ u ∈ ys, u.oneCell' = true) (hb : (n + m) * bytes ≤ 140737488355328)
    {o : Oper} {a : Act} {K : Act → World → Prop} {Q : Exit → Act → World → Prop} {s x : Operand} (hgd : o.guard = none)
    (ho : o.op = .call { callee := .builtin .append, args := #[s, x], argTypes := #[t, t] })
    (hs : a.eval s = .slice (some ⟨g, 0, none⟩) n c) (hx : a.eval x = .slice B m d)
    (h : ∀ A' c' w', Sees w' (some e) size A' (n + m) (xs ++ ys) → w'.ownsRow base e size (.slice (some ⟨g, 0, none⟩) n c) n xs → w.grownBy w' (some g) → K (a.put o.dst (.slice A' (n + m) c')) w') :
    Oper.wp P o a w K Q := by
  obtain ⟨i, hi, hz, hsz, hy⟩ := info_parts T.hi
  rcases B with _ | ad
  · have hm : m = 0 := hr.2.1 rfl
    subst hm
    have hn := hr.empty
    subst hn
    have hnc := (own_cap hown).1
    have hrun : (Builtin.append_ #[t, t] o.type #[.slice (some ⟨g, 0, none⟩) n c, .slice none 0 d]).run P w = .ok (.slice (some ⟨g, 0, none⟩) n c) w := by
      simp [Builtin.append_, run_underlying T.ht, sizeOf, typeInfo, hi, Builtin.lenOf, Builtin.firstCells, hnc, storeCells]
    unfold Oper.wp execOp
    simp only [ho, resolve, invoke, builtin, Sem.run_bind, Sem.run_pure, Result.andThen_ok, List.map_toArray, List.map_cons, List.map_nil, hs, hx, hrun]
    exact h _ _ _ (by simpa using Sees.of_own hown) hown (World.grownBy.refl _ _)
  · by_cases hroom : n + m ≤ c
    · obtain ⟨w', hrun, h2, h3⟩ := run_append_fits (P := P) w base t o.type e i size T.ht hi hsz g n c xs hown ad m d ys hr.1 (hr.2.2 ad rfl).2 h1 hroom
      unfold Oper.wp execOp
      simp only [ho, resolve, invoke, builtin, Sem.run_bind, Sem.run_pure, Result.andThen_ok, List.map_toArray, List.map_cons, List.map_nil, hs, hx, hrun]
      exact h _ _ _ (Sees.of_own h2) (own_shrink h2 hown.1) h3
    · have hw : Region.wanted o (yielded #[] a.tmps) = true := by simp [Region.wanted, hgd]
      have key := step_append_grows (P := P) (ops := #[]) (o := o) (a := a) (w := w) (K := K) (Q := Q) (E := True) hgd s x t ho e i z size bytes T.ht hi hz hsz hy T.hzs T.hsz (some ⟨g, 0, none⟩) n c xs hs (by simp) hown.1 (fun b hbb => by injection hbb with hbb; subst hbb; exact hown.cells rfl) ad m d ys hx hr.1 (hr.2.2 ad rfl).2 h1 (by omega)
        (by have := Nat.le_mul_of_pos_right (n + m) T.hby; simp only [maxLen]; omega) hb ?_
      · rw [if_pos hw] at key
        exact key
      · intro v' w' hown' hg
        have : ∃ A' c', v' = .slice A' (n + m) c' := by
          rcases hown'.2 with ⟨rfl, h0⟩ | ⟨g', cap, cur, rfl, _⟩
          · exact ⟨none, 0, by rw [h0]⟩
          · exact ⟨_, _, rfl⟩
        obtain ⟨A', c', rfl⟩ := this
        exact h _ _ _ (Sees.of_own hown') (hown.kept hg (.inr (by simp [Value.ownBlock]))) ⟨hg.os, hg.tape, hg.output, hg.size, fun k hk _ => hg.block k hk (by simp)⟩
end Go.Proofs.Ytonfbinkjhbpiaa
