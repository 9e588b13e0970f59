/- slices.Delete of one element of a row of one's own. No condition. -/
import Derived.Test.YtmhmldpccccjbaaNI
namespace Go.Proofs.Ytmhmldpccccjbaa
open Go.RowKit
set_option linter.unusedVariables false
set_option linter.unusedSimpArgs false

theorem step_append_runI {P : Program} {ops : Array Oper} {o : Oper} {a : Act} {w : World} {K : Act → World → Prop} {Q : Exit → Act → World → Prop} {E : Prop}
    (hg : o.guard = none) (d x : Operand) (dT sT : TypeId) (hop : o.op = Op.call { callee := Callee.builtin Builtin.append, args := #[d, x], argTypes := #[dT, sT] })
    (v u : Value) (hd : a.eval d = v) (hx : a.eval x = u) {v' : Value} {w' : World} (hr : (Builtin.append_ #[dT, sT] o.type #[v, u]).run P w = .ok v' w') (hK : K (a.put o.dst v') w') :
    if Region.wanted o (yielded ops a.tmps) = true then Oper.wp P o a w K Q else E := by
  have hw : Region.wanted o (yielded ops a.tmps) = true := by simp [Region.wanted, hg]
  rw [if_pos hw]
  unfold Oper.wp
  simp [execOp, hop, resolve, invoke, builtin, hd, hx, hr, Result.andThen]
  exact hK
theorem run_clear_rowN {P : Program} (w : World) (t e ty : TypeId) (z : Value) (g o c sz : Nat) (cur : Array Value) (te : TypeId) (ht : P.underlying t = some (.slice e)) (hv : ∀ w, (zeroValue e).run P w = .ok z w) (hz : z.cells.size = sz) (h1 : ∀ v ∈ z.cells.toList, v.oneCell' = true)
    (hg : w.heap[g]? = some (.cells cur te (0, 0))) (hfit : o + sz ≤ cur.size) :
    (Builtin.clear_ #[t] ty #[.slice (some ⟨g, o, none⟩) 1 c]).run P w = .ok (.tuple #[]) (w.setRow g (cur.toList.take o ++ z.cells.toList ++ cur.toList.drop (o + sz)).toArray) := by
  have hzc : (Builtin.zeroCells z.cells 1).toList = z.cells.toList := by
    simp [Builtin.zeroCells]
    apply List.ext_getElem
    · simp
    · intro i h1 h2
      have h3 : i < z.cells.size := by simpa using h2
      simp [Nat.mod_eq_of_lt h3, h3]
  have hst := run_storeCells_at P g o te z.cells.toList 0 cur w hg (by simp; omega) h1
  simp only [Nat.add_zero] at hst
  rw [show z.cells.toList.length = sz by simpa using hz] at hst
  simp [Builtin.clear_, run_underlying ht, hv, hzc, hst]
theorem del_room {α : Type} (cur xs zs : List α) (p q s : Nat) (hp : p + s ≤ q) (hx : cur.take q = xs) (hge : q ≤ cur.length) :
    ((cur.take p ++ xs.drop (p + s) ++ cur.drop (p + (q - (p + s)))).take (q - s) ++ zs ++ (cur.take p ++ xs.drop (p + s) ++ cur.drop (p + (q - (p + s)))).drop (q - s + s)).take (q - s) = xs.take p ++ xs.drop (p + s) := by
  have h0 : p ≤ q := by omega
  · have hxl : xs.length = q := by rw [← hx, List.length_take]; omega
    have h1 : (cur.take p ++ xs.drop (p + s) ++ cur.drop (p + (q - (p + s)))).take (q - s) = xs.take p ++ xs.drop (p + s) := by
      rw [List.take_append_of_le_length (by simp; omega), List.take_of_length_le (by simp; omega), ← hx, List.take_take]
      congr 2
      omega
    rw [h1, List.append_assoc, List.take_append_of_le_length (by simp; omega), List.take_of_length_le (by simp; omega)]

set_option maxHeartbeats 4000000 in
set_option maxRecDepth 100000 in
theorem del_any_slot (base : Nat) (A : Option Addr) (n c k : Nat) (xs : List Value) (w : World) (ho : w.ownsRow base 65 4 (.slice A n c) n xs) (hk : k < n) (hn : n ≤ 100000) (h1x : ∀ v ∈ xs, v.oneCell' = true) :
    Calls Try.prog 75 #[.slice A n c, .int .i64 k, .int .i64 ((k : Int) + 1)] w fun e w' => e = .returned (.slice A (n - 1) c) ∧ w'.ownsRow base 65 4 (.slice A (n - 1) c) (n - 1) (xs.take (k * 4) ++ xs.drop ((k + 1) * 4)) ∧ w.grownBy w' (Value.ownBlock (.slice A n c)) := by
  have hX := (Sees.of_own ho).2.2
  have hxl := ho.1
  have hnc := (own_cap ho).1
  have hcm := (own_cap ho).2
  rcases ho.2 with ⟨hv0, h0⟩ | ⟨g, cap, cur, hv0, hbg, hg, _, _, hcs, htk⟩
  · omega
  injection hv0 with h0 _ h2
  subst h0 h2
  replace hX := hX ⟨g, 0, none⟩ rfl
  have hcm' := hcm
  unfold maxLen at hcm'
  have T0 : ElemTy Try.prog 22 65 (.agg #[.int .i64 0, .int .i64 0, .int .i64 0, .slice none 0 0]) 4 48 := ⟨Try.underlying22, by kernel_rfl, rfl, by omega, by omega⟩
  obtain ⟨i0, hi0, hz0, hzs, hzb⟩ := info_parts T0.hi
  have hk1 : (k + 1) * 4 = k * 4 + 4 := Nat.succ_mul ..
  have hp4 : k * 4 + 4 ≤ n * 4 := by rw [← hk1]; exact Nat.mul_le_mul_right _ (by omega)
  have hc4 : n * 4 ≤ cur.size := by rw [hcs]; exact Nat.mul_le_mul_right _ hnc
  have hn1 : (n - 1) * 4 = n * 4 - 4 := by rw [Nat.sub_mul, Nat.one_mul]
  have hnk : (n - (k + 1)) * 4 = n * 4 - (k * 4 + 4) := by rw [Nat.sub_mul, hk1]
  have hdl : (xs.drop (k * 4 + 4)).length = n * 4 - (k * 4 + 4) := by rw [List.length_drop, hxl]
  obtain ⟨C1, hC1⟩ : ∃ C1, C1 = (cur.toList.take (k * 4) ++ xs.drop (k * 4 + 4) ++ cur.toList.drop (k * 4 + (xs.drop (k * 4 + 4)).length)).toArray := ⟨_, rfl⟩
  have hC1s : C1.size = cur.size := by rw [hC1]; simp; omega
  obtain ⟨ad, hA, hsrc⟩ : ∃ ad : Addr, (if c = k + 1 then some (⟨g, 0, none⟩ : Addr) else some ⟨g, k * 4 + 4, none⟩) = some ad ∧ ∀ j u, (xs.drop (k * 4 + 4))[j]? = some u → w.drew.cell? (ad.add j) = some u := by
    by_cases h : c = k + 1
    · refine ⟨⟨g, 0, none⟩, by simp [h], fun t u hu => ?_⟩
      have h0 : (xs.drop (k * 4 + 4)).length = 0 := by
        rw [hdl]
        have : n = k + 1 := by omega
        rw [this, hk1]; omega
      rw [List.length_eq_zero_iff.1 h0] at hu
      simp at hu
    · refine ⟨⟨g, k * 4 + 4, none⟩, by simp [h], fun t u hu => ?_⟩
      rw [List.getElem?_drop] at hu
      have := hX.2 _ _ hu
      rw [show ((⟨g, k * 4 + 4, none⟩ : Addr).add t) = (⟨g, 0, none⟩ : Addr).add (k * 4 + 4 + t) by rw [Addr.add_lit, Addr.add_lit]; simp]
      exact this
  have hap : ∀ ty dc, (Builtin.append_ #[22, 22] ty #[.slice (some ⟨g, 0, none⟩) k c, .slice (some ad) (n - (k + 1)) dc]).run Try.prog w.drew = .ok (.slice (some ⟨g, 0, none⟩) (k + (n - (k + 1))) c) (w.drew.setRow g C1) := fun ty dc => by
    rw [hC1]
    have := run_append_room (P := Try.prog) w.drew 22 ty 65 i0 Try.underlying22 hi0 g k c cur hg ad (n - (k + 1)) dc (xs.drop (k * 4 + 4)) (by rw [hzs]; omega) hsrc (fun v hv => h1x v (List.mem_of_mem_drop hv)) (by omega) (by rw [hzs]; omega)
    rw [hzs] at this
    exact this
  have hg1 : (w.drew.setRow g C1).heap[g]? = some (.cells C1 65 (0, 0)) := setRow_heap w.drew g cur C1 65 (0, 0) hg
  obtain ⟨C2, hC2⟩ : ∃ C2, C2 = (C1.toList.take ((n - 1) * 4) ++ ((.agg #[.int .i64 0, .int .i64 0, .int .i64 0, .slice none 0 0]) : Value).cells.toList ++ C1.toList.drop ((n - 1) * 4 + 4)).toArray := ⟨_, rfl⟩
  have hC2s : C2.size = C1.size := by rw [hC2]; simp [Value.cells]; omega
  have hcl : ∀ ty dc, (Builtin.clear_ #[22] ty #[.slice (some ⟨g, (n - 1) * 4, none⟩) 1 dc]).run Try.prog (w.drew.setRow g C1) = .ok (.tuple #[]) ((w.drew.setRow g C1).setRow g C2) := fun ty dc => by
    rw [hC2]
    exact run_clear_rowN (w.drew.setRow g C1) 22 65 ty (.agg #[.int .i64 0, .int .i64 0, .int .i64 0, .slice none 0 0]) g ((n - 1) * 4) dc 4 C1 65 Try.underlying22 (fun w => by simp [zeroValue, typeInfo, hi0, hz0]) rfl (by simp [Value.cells, Value.oneCell']) hg1 (by omega)
  have mixed : Try.prog.follows Departure.mixedOrders = true := by kernel_rfl
  have FIN : Hid (C2.toList.take ((n - 1) * 4) = xs.take (k * 4) ++ xs.drop ((k + 1) * 4) ∧ C2.size = c * 4 ∧ (xs.take (k * 4) ++ xs.drop ((k + 1) * 4)).length = (n - 1) * 4) := by
    refine Lib.hid ⟨?_, by omega, by simp; omega⟩
    have := del_room cur.toList xs ((.agg #[.int .i64 0, .int .i64 0, .int .i64 0, .slice none 0 0]) : Value).cells.toList (k * 4) (n * 4) 4 hp4 htk (by simpa using hc4)
    rw [hC2, hC1, hdl, hn1, hk1]
    simpa using this
  have hb1 : (0 : Int) ≤ (k : Int) + 1 := by omega
  have htn : ((k : Int) + 1).toNat = k + 1 := by omega
  have HKK := Lib.hid (show k + (n - (k + 1)) = n - 1 by omega)
  have hin : k ≤ n := by omega
  have hin2 : (k : Int) ≤ (n : Int) := by omega
  have hin3 : (k : Int) + 1 ≤ (n : Int) := by omega
  have hin4 : k + 1 ≤ n := by omega
  have hin5 : (k : Int) + 1 ≤ (c : Int) := by omega
  have hin6 : (k : Int) ≤ (c : Int) := by omega
  have hin7 : (k : Int) ≤ (k : Int) + 1 := by omega
  have hne : ¬ ((k : Int) = (k : Int) + 1) := by omega
  have hgl : g < w.heap.size := (Array.getElem?_eq_some_iff.1 hg).1
  clear hC1 hC2 hdl hnk hxl hcs hC1s hC2s hX hc4 hp4 hn1 hsrc hi0 hz0 hzs hzb htk
  go_enter Try.func75, Try.ntmps75
  go_wp2_with fail
  go_region_law_o (refine step_append_runI rfl (.tmp 22) (.tmp 25) 22 22 rfl (.slice (some ⟨g, 0, none⟩) k c) (.slice (some ad) (n - (k + 1)) (c - (k + 1))) (by simp [Act.eval, Act.put]) (by simp [Act.eval, Act.put]) (hap _ _) ?_)
  rw [HKK.out]
  go_wp2_with fail
  rw [show n - (n - 1) = 1 by omega, hcl]
  go_wp2
  go_ret
  have hgr : w.grownBy ((w.drew.setRow g C1).setRow g C2) (some g) := grown_trans (grown_setRowD w g C1) (grown_setRow _ g C2)
  exact ⟨rfl, own_setRow (c0 := C1) (by simp [World.setRow]; exact hgl) hbg (by omega) hcm FIN.out.2.1 FIN.out.1 FIN.out.2.2 hg1, hgr⟩

set_option maxHeartbeats 4000000 in
set_option maxRecDepth 100000 in
theorem del_any_deaf (base : Nat) (A : Option Addr) (n c k : Nat) (xs : List Value) (w : World) (ho : w.ownsRow base 77 2 (.slice A n c) n xs) (hk : k < n) (hn : n ≤ 100000) (h1x : ∀ v ∈ xs, v.oneCell' = true) :
    Calls Try.prog 42 #[.slice A n c, .int .i64 k, .int .i64 ((k : Int) + 1)] w fun e w' => e = .returned (.slice A (n - 1) c) ∧ w'.ownsRow base 77 2 (.slice A (n - 1) c) (n - 1) (xs.take (k * 2) ++ xs.drop ((k + 1) * 2)) ∧ w.grownBy w' (Value.ownBlock (.slice A n c)) := by
  have hX := (Sees.of_own ho).2.2
  have hxl := ho.1
  have hnc := (own_cap ho).1
  have hcm := (own_cap ho).2
  rcases ho.2 with ⟨hv0, h0⟩ | ⟨g, cap, cur, hv0, hbg, hg, _, _, hcs, htk⟩
  · omega
  injection hv0 with h0 _ h2
  subst h0 h2
  replace hX := hX ⟨g, 0, none⟩ rfl
  have hcm' := hcm
  unfold maxLen at hcm'
  have T0 : ElemTy Try.prog 23 77 (.agg #[.int .i64 0, .int .i64 0]) 2 16 := ⟨Try.underlying23, by kernel_rfl, rfl, by omega, by omega⟩
  obtain ⟨i0, hi0, hz0, hzs, hzb⟩ := info_parts T0.hi
  have hk1 : (k + 1) * 2 = k * 2 + 2 := Nat.succ_mul ..
  have hp4 : k * 2 + 2 ≤ n * 2 := by rw [← hk1]; exact Nat.mul_le_mul_right _ (by omega)
  have hc4 : n * 2 ≤ cur.size := by rw [hcs]; exact Nat.mul_le_mul_right _ hnc
  have hn1 : (n - 1) * 2 = n * 2 - 2 := by rw [Nat.sub_mul, Nat.one_mul]
  have hnk : (n - (k + 1)) * 2 = n * 2 - (k * 2 + 2) := by rw [Nat.sub_mul, hk1]
  have hdl : (xs.drop (k * 2 + 2)).length = n * 2 - (k * 2 + 2) := by rw [List.length_drop, hxl]
  obtain ⟨C1, hC1⟩ : ∃ C1, C1 = (cur.toList.take (k * 2) ++ xs.drop (k * 2 + 2) ++ cur.toList.drop (k * 2 + (xs.drop (k * 2 + 2)).length)).toArray := ⟨_, rfl⟩
  have hC1s : C1.size = cur.size := by rw [hC1]; simp; omega
  obtain ⟨ad, hA, hsrc⟩ : ∃ ad : Addr, (if c = k + 1 then some (⟨g, 0, none⟩ : Addr) else some ⟨g, k * 2 + 2, none⟩) = some ad ∧ ∀ j u, (xs.drop (k * 2 + 2))[j]? = some u → w.drew.cell? (ad.add j) = some u := by
    by_cases h : c = k + 1
    · refine ⟨⟨g, 0, none⟩, by simp [h], fun t u hu => ?_⟩
      have h0 : (xs.drop (k * 2 + 2)).length = 0 := by
        rw [hdl]
        have : n = k + 1 := by omega
        rw [this, hk1]; omega
      rw [List.length_eq_zero_iff.1 h0] at hu
      simp at hu
    · refine ⟨⟨g, k * 2 + 2, none⟩, by simp [h], fun t u hu => ?_⟩
      rw [List.getElem?_drop] at hu
      have := hX.2 _ _ hu
      rw [show ((⟨g, k * 2 + 2, none⟩ : Addr).add t) = (⟨g, 0, none⟩ : Addr).add (k * 2 + 2 + t) by rw [Addr.add_lit, Addr.add_lit]; simp]
      exact this
  have hap : ∀ ty dc, (Builtin.append_ #[23, 23] ty #[.slice (some ⟨g, 0, none⟩) k c, .slice (some ad) (n - (k + 1)) dc]).run Try.prog w.drew = .ok (.slice (some ⟨g, 0, none⟩) (k + (n - (k + 1))) c) (w.drew.setRow g C1) := fun ty dc => by
    rw [hC1]
    have := run_append_room (P := Try.prog) w.drew 23 ty 77 i0 Try.underlying23 hi0 g k c cur hg ad (n - (k + 1)) dc (xs.drop (k * 2 + 2)) (by rw [hzs]; omega) hsrc (fun v hv => h1x v (List.mem_of_mem_drop hv)) (by omega) (by rw [hzs]; omega)
    rw [hzs] at this
    exact this
  have hg1 : (w.drew.setRow g C1).heap[g]? = some (.cells C1 77 (0, 0)) := setRow_heap w.drew g cur C1 77 (0, 0) hg
  obtain ⟨C2, hC2⟩ : ∃ C2, C2 = (C1.toList.take ((n - 1) * 2) ++ ((.agg #[.int .i64 0, .int .i64 0]) : Value).cells.toList ++ C1.toList.drop ((n - 1) * 2 + 2)).toArray := ⟨_, rfl⟩
  have hC2s : C2.size = C1.size := by rw [hC2]; simp [Value.cells]; omega
  have hcl : ∀ ty dc, (Builtin.clear_ #[23] ty #[.slice (some ⟨g, (n - 1) * 2, none⟩) 1 dc]).run Try.prog (w.drew.setRow g C1) = .ok (.tuple #[]) ((w.drew.setRow g C1).setRow g C2) := fun ty dc => by
    rw [hC2]
    exact run_clear_rowN (w.drew.setRow g C1) 23 77 ty (.agg #[.int .i64 0, .int .i64 0]) g ((n - 1) * 2) dc 2 C1 77 Try.underlying23 (fun w => by simp [zeroValue, typeInfo, hi0, hz0]) rfl (by simp [Value.cells, Value.oneCell']) hg1 (by omega)
  have mixed : Try.prog.follows Departure.mixedOrders = true := by kernel_rfl
  have FIN : Hid (C2.toList.take ((n - 1) * 2) = xs.take (k * 2) ++ xs.drop ((k + 1) * 2) ∧ C2.size = c * 2 ∧ (xs.take (k * 2) ++ xs.drop ((k + 1) * 2)).length = (n - 1) * 2) := by
    refine Lib.hid ⟨?_, by omega, by simp; omega⟩
    have := del_room cur.toList xs ((.agg #[.int .i64 0, .int .i64 0]) : Value).cells.toList (k * 2) (n * 2) 2 hp4 htk (by simpa using hc4)
    rw [hC2, hC1, hdl, hn1, hk1]
    simpa using this
  have hb1 : (0 : Int) ≤ (k : Int) + 1 := by omega
  have htn : ((k : Int) + 1).toNat = k + 1 := by omega
  have HKK := Lib.hid (show k + (n - (k + 1)) = n - 1 by omega)
  have hin : k ≤ n := by omega
  have hin2 : (k : Int) ≤ (n : Int) := by omega
  have hin3 : (k : Int) + 1 ≤ (n : Int) := by omega
  have hin4 : k + 1 ≤ n := by omega
  have hin5 : (k : Int) + 1 ≤ (c : Int) := by omega
  have hin6 : (k : Int) ≤ (c : Int) := by omega
  have hin7 : (k : Int) ≤ (k : Int) + 1 := by omega
  have hne : ¬ ((k : Int) = (k : Int) + 1) := by omega
  have hgl : g < w.heap.size := (Array.getElem?_eq_some_iff.1 hg).1
  clear hC1 hC2 hdl hnk hxl hcs hC1s hC2s hX hc4 hp4 hn1 hsrc hi0 hz0 hzs hzb htk
  go_enter Try.func42, Try.ntmps42
  go_wp2_with fail
  go_region_law_o (refine step_append_runI rfl (.tmp 22) (.tmp 25) 23 23 rfl (.slice (some ⟨g, 0, none⟩) k c) (.slice (some ad) (n - (k + 1)) (c - (k + 1))) (by simp [Act.eval, Act.put]) (by simp [Act.eval, Act.put]) (hap _ _) ?_)
  rw [HKK.out]
  go_wp2_with fail
  rw [show n - (n - 1) = 1 by omega, hcl]
  go_wp2
  go_ret
  have hgr : w.grownBy ((w.drew.setRow g C1).setRow g C2) (some g) := grown_trans (grown_setRowD w g C1) (grown_setRow _ g C2)
  exact ⟨rfl, own_setRow (c0 := C1) (by simp [World.setRow]; exact hgl) hbg (by omega) hcm FIN.out.2.1 FIN.out.1 FIN.out.2.2 hg1, hgr⟩
end Go.Proofs.Ytmhmldpccccjbaa
