/- Nets as trees. No condition. -/
import Derived.Test.YtmhmldpccccjbaaBase
import Derived.Shelf.RegionOpenPlain
import Derived.Lib.SliceRun
import Derived.Lib.Overlaps
import Derived.Lib.AppendZerosOnto
import Derived.Laws.CopyRow
import Derived.Laws.NewBlocks
import Derived.Laws.Externs
import Derived.Test.YtmhmldpccccjbaaT21
import Derived.Test.YtmhmldpccccjbaaU6
import Derived.Test.YtmhmldpccccjbaaU6
import Derived.Test.YtmhmldpccccjbaaU7
import Derived.Test.YtmhmldpccccjbaaU10
import Derived.Test.YtmhmldpccccjbaaU12
import Derived.Test.YtmhmldpccccjbaaU12
namespace Go.Proofs.Ytmhmldpccccjbaa
open Go.RowKit
set_option linter.unusedVariables false
set_option linter.unusedSimpArgs false

theorem wp_copy_runI {P : Program} (w : World) {o : Oper} {a : Act} {K : Act → World → Prop} {Q : Exit → Act → World → Prop} (d s : Operand) (t t' : TypeId)
    (ho : o.op = .call { callee := .builtin .copy, args := #[d, s], argTypes := #[t, t'] }) (v u : Value) (hd : a.eval d = v) (hs : a.eval s = u) {v' : Value} {w' : World}
    (hr : (Builtin.copy_ #[t, t'] o.type #[v, u]).run P w = .ok v' w') (h : K (a.put o.dst v') w') : o.wp P a w K Q := by
  unfold Oper.wp execOp
  simp only [ho, resolve, invoke, builtin, Sem.run_bind, Sem.run_pure, Result.andThen_ok, List.map_toArray, List.map_cons, List.map_nil, hd, hs, hr]
  exact h
theorem wpList_copy_runI {P : Program} (w : World) {ops : Array Oper} {rest : List Oper} {o : Oper} {a : Act} {Q : Exit → Act → World → Prop} (hgd : o.guard = none) (d s : Operand) (t t' : TypeId)
    (ho : o.op = .call { callee := .builtin .copy, args := #[d, s], argTypes := #[t, t'] }) (v u : Value) (hd : a.eval d = v) (hs : a.eval s = u) {v' : Value} {w' : World}
    (hr : (Builtin.copy_ #[t, t'] o.type #[v, u]).run P w = .ok v' w') (h : wpList P ops Q rest (a.put o.dst v') w') : wpList P ops Q (o :: rest) a w :=
  wpList_plain hgd fun _ hK => wp_copy_runI w d s t t' ho v u hd hs hr (hK _ _ h)
theorem step_copy_runI {P : Program} {ops : Array Oper} {o : Oper} {a : Act} {w : World} {K : Act → World → Prop} {Q : Exit → Act → World → Prop} {E : Prop}
    (hg : o.guard = none) (d x : Operand) (dT sT : TypeId) (hop : o.op = Op.call { callee := Callee.builtin Builtin.copy, args := #[d, x], argTypes := #[dT, sT] })
    (v u : Value) (hd : a.eval d = v) (hx : a.eval x = u) {v' : Value} {w' : World} (hr : (Builtin.copy_ #[dT, sT] o.type #[v, u]).run P w = .ok v' w') (hK : K (a.put o.dst v') w') :
    if Region.wanted o (yielded ops a.tmps) = true then Oper.wp P o a w K Q else E := by
  have hw : Region.wanted o (yielded ops a.tmps) = true := by simp [Region.wanted, hg]
  rw [if_pos hw]
  unfold Oper.wp
  simp [execOp, hop, resolve, invoke, builtin, hd, hx, hr, Result.andThen]
  exact hK
/-- copy between rows of elements of any size: all is read ahead of what is written. -/
theorem run_copy_rowN {P : Program} (w : World) (dT sT ty elem : TypeId) (sz m g o dLen dCap : Nat) (a : Addr) (sLen sCap : Nat) (cur : Array Value) (t : TypeId) (cs : List Value)
    (hu : P.underlying dT = some (.slice elem)) (hs : (P.info? elem).map (·.size) = some sz) (hm : Nat.min sLen dLen = m)
    (hg : w.heap[g]? = some (.cells cur t (0, 0))) (hn : cs.length = m * sz)
    (hsrc : ∀ j v, cs[j]? = some v → w.cell? (a.add j) = some v) (hfit : o + cs.length ≤ cur.size) (h1 : ∀ v ∈ cs, v.oneCell' = true) :
    (Builtin.copy_ #[dT, sT] ty #[.slice (some ⟨g, o, none⟩) dLen dCap, .slice (some a) sLen sCap]).run P w =
      .ok (goInt m) (w.setRow g (cur.toList.take o ++ cs ++ cur.toList.drop (o + cs.length)).toArray) := by
  have hl := run_loadCells_list (P := P) w a cs hsrc
  have hst := run_storeCells_at P g o t cs 0 cur w hg (by simpa using hfit) h1
  cases hq : P.info? elem with
  | none => simp [hq] at hs
  | some i =>
    have hi : i.size = sz := by simpa [hq] using hs
    simp [Builtin.copy_, run_underlying hu, Builtin.lenOf, Builtin.firstCells, sizeOf, typeInfo, hq, hi, hm, ← hn, hl, hst]
theorem ins_room {α : Type} (cur xs vs : List α) (p q s : Nat) (hp : p ≤ q) (hx : cur.take q = xs) (hv : vs.length = s) (hc : q + s ≤ cur.length) :
    ((cur.take (p + s) ++ xs.drop p ++ cur.drop (p + s + (q - p))).take p ++ vs ++ (cur.take (p + s) ++ xs.drop p ++ cur.drop (p + s + (q - p))).drop (p + s)).take (q + s) = xs.take p ++ vs ++ xs.drop p := by
  have hxl : xs.length = q := by rw [← hx, List.length_take]; omega
  have h1 : (cur.take (p + s) ++ xs.drop p ++ cur.drop (p + s + (q - p))).take p = xs.take p := by
    rw [List.append_assoc, List.take_append_of_le_length (by rw [List.length_take]; omega), List.take_take, ← hx, List.take_take]
    congr 1
    omega
  have h2 : (cur.take (p + s) ++ xs.drop p ++ cur.drop (p + s + (q - p))).drop (p + s) = xs.drop p ++ cur.drop (p + s + (q - p)) := by
    rw [List.append_assoc, List.drop_append_of_le_length (by rw [List.length_take]; omega), List.drop_eq_nil_of_le (by rw [List.length_take]; omega), List.nil_append]
  rw [h1, h2, ← List.append_assoc, List.take_append_of_le_length (by simp; omega), List.take_of_length_le (by simp; omega)]
theorem ins_new {α : Type} (z xs vs : List α) (p q s : Nat) (hp : p ≤ q) (hx : xs.length = q) (hv : vs.length = s) (hz : p + z.length ≥ q + s) :
    (((xs.take p ++ z).take p ++ vs ++ (xs.take p ++ z).drop (p + s)).take (p + s) ++ xs.drop p ++ ((xs.take p ++ z).take p ++ vs ++ (xs.take p ++ z).drop (p + s)).drop (p + s + (q - p))).take (q + s) = xs.take p ++ vs ++ xs.drop p := by
  have h1 : (xs.take p ++ z).take p = xs.take p := by
    rw [List.take_append_of_le_length (by rw [List.length_take]; omega), List.take_take]; congr 1; omega
  have h2 : ∀ r : List α, (xs.take p ++ vs ++ r).take (p + s) = xs.take p ++ vs := fun r => by
    rw [List.take_append_of_le_length (by simp; omega), List.take_of_length_le (by simp; omega)]
  rw [h1, h2, List.take_append_of_le_length (by simp; omega), List.take_of_length_le (by simp; omega)]
theorem own_setRow {w : World} {base e size g n cap : Nat} {cur : Array Value} {xs : List Value} (hlt : g < w.heap.size) (hb : base ≤ g) (hn : n ≤ cap) (hc : cap ≤ maxLen) (hs : cur.size = cap * size) (hx : cur.toList.take (n * size) = xs) (hl : xs.length = n * size) {c0 : Array Value}
    (hg : w.heap[g]? = some (.cells c0 e (0, 0))) : (w.setRow g cur).ownsRow base e size (.slice (some ⟨g, 0, none⟩) n cap) n xs :=
  ⟨hl, .inr ⟨g, cap, cur, rfl, hb, setRow_heap w g c0 cur e (0, 0) hg, hn, hc, hs, hx⟩⟩
theorem grown_setRow (w : World) (g : Nat) (cur : Array Value) : w.grownBy (w.setRow g cur) (some g) :=
  ⟨rfl, rfl, rfl, by simp [World.setRow], fun k hk hne => setRow_other w g k _ (fun e => hne (by simp [e]))⟩
theorem grown_setRowD (w : World) (g : Nat) (cur : Array Value) : w.grownBy (w.drew.setRow g cur) (some g) :=
  ⟨rfl, rfl, rfl, by simp [World.setRow], fun k hk hne => (setRow_other w.drew g k _ (fun e => hne (by simp [e])))⟩

set_option maxHeartbeats 4000000 in
set_option maxRecDepth 100000 in
theorem ins_end_slot (base : Nat) (A : Option Addr) (n c vb vc : Nat) (xs vs : List Value) (w : World) (ho : w.ownsRow base 65 4 (.slice A n c) n xs) (hv : w.ownsRow base 65 4 (.slice (some ⟨vb, 0, none⟩) 1 vc) 1 vs) (hn : n ≤ 100000) (h1v : ∀ v ∈ vs, v.oneCell' = true) (hb : base ≤ w.heap.size) :
    Calls Try.prog 69 #[.slice A n c, .int .i64 n, .slice (some ⟨vb, 0, none⟩) 1 vc] w fun e w' => ∃ A' c', e = .returned (.slice A' (n + 1) c') ∧ w'.ownsRow base 65 4 (.slice A' (n + 1) c') (n + 1) (xs ++ vs) ∧ w.grownBy w' (Value.ownBlock (.slice A n c)) ∧
      (Value.ownBlock (.slice A' (n + 1) c') = Value.ownBlock (.slice A n c) ∨ Value.ownBlock (.slice A' (n + 1) c') = some w.heap.size) := by
  have hS := Sees.of_own hv
  have T0 : ElemTy Try.prog 22 65 (.agg #[.int .i64 0, .int .i64 0, .int .i64 0, .slice none 0 0]) 4 48 := ⟨Try.underlying22, by kernel_rfl, rfl, by omega, by omega⟩
  have hnc := (own_cap ho).1
  have hcm := (own_cap ho).2
  unfold maxLen at hcm
  rcases Nat.eq_or_lt_of_le hnc with hcn | hcn
  · subst hcn
    go_enter Try.func69, Try.ntmps69
    go_wp2_with (at_builtin; refine Door.enter ?_)
    refine Door.leave (wl_append T0 ho hS rfl rfl h1v (by omega) hb rfl rfl rfl rfl ?_)
    intro A' c' w' h2 h3 h4 h5
    go_wp2
    go_ret
    exact ⟨A', c', rfl, h2, h4, h5⟩
  · obtain ⟨ad, rfl⟩ : ∃ ad, A = some ad := by
      rcases ho.2 with ⟨hv, _⟩ | ⟨g, cap, cur, hv, _⟩
      · injection hv with _ _ h3; omega
      · injection hv with h1; exact ⟨_, h1⟩
    go_enter Try.func69, Try.ntmps69
    go_wp2_with (at_builtin; refine Door.enter ?_)
    refine Door.leave (wl_append T0 ho hS rfl rfl h1v (by omega) hb rfl rfl rfl rfl ?_)
    intro A' c' w' h2 h3 h4 h5
    go_wp2
    go_ret
    exact ⟨A', c', rfl, h2, h4, h5⟩
set_option maxHeartbeats 4000000 in
set_option maxRecDepth 100000 in
theorem ins_room_slot (base : Nat) (g n c k vb vc : Nat) (xs vs : List Value) (w : World) (ho : w.ownsRow base 65 4 (.slice (some ⟨g, 0, none⟩) n c) n xs) (hv : w.ownsRow base 65 4 (.slice (some ⟨vb, 0, none⟩) 1 vc) 1 vs) (hne : vb ≠ g) (hk : k < n) (hn : n ≤ 100000) (hroom : n < c) (h1x : ∀ v ∈ xs, v.oneCell' = true) (h1v : ∀ v ∈ vs, v.oneCell' = true) :
    Calls Try.prog 69 #[.slice (some ⟨g, 0, none⟩) n c, .int .i64 k, .slice (some ⟨vb, 0, none⟩) 1 vc] w fun e w' => e = .returned (.slice (some ⟨g, 0, none⟩) (n + 1) c) ∧ w'.ownsRow base 65 4 (.slice (some ⟨g, 0, none⟩) (n + 1) c) (n + 1) (xs.take (k * 4) ++ vs ++ xs.drop (k * 4)) ∧ w.grownBy w' (some g) := by
  have hS := (Sees.of_own hv).2.2 ⟨vb, 0, none⟩ rfl
  have hX := (Sees.of_own ho).2.2 ⟨g, 0, none⟩ rfl
  have hxl := ho.1
  have hvl := hv.1
  have hnc := (own_cap ho).1
  have hcm := (own_cap ho).2
  rcases ho.2 with ⟨hv0, _⟩ | ⟨g', cap, cur, hv0, hbg, hg, _, _, hcs, htk⟩
  · cases hv0
  injection hv0 with h0 _ h2
  injection h0 with h0
  injection h0 with h0
  subst h0 h2
  rcases hv.2 with ⟨hv1, _⟩ | ⟨g', cap, cur2, hv1, hbv, hgv, _, _, hcsv, htv⟩
  · cases hv1
  injection hv1 with h0 _ h2
  injection h0 with h0
  injection h0 with h0
  subst h0 h2
  have hp4 : k * 4 ≤ n * 4 := Nat.mul_le_mul_right _ (by omega)
  have hc4 : n * 4 + 4 ≤ cur.size := by rw [hcs]; have := Nat.mul_le_mul_right 4 (show n + 1 ≤ c by omega); omega
  have hsz : (Try.prog.info? 65).map (·.size) = some 4 := by kernel_rfl
  have hszr : ∀ w, (Go.sizeOf 65).run Try.prog w = .ok 4 w := fun w => by
    cases hq : Try.prog.info? 65 with
    | none => simp [hq] at hsz
    | some i =>
      have hi : i.size = 4 := by simpa [hq] using hsz
      simp [sizeOf, typeInfo, hq, hi]
  have hov : ∀ off lb cb, (callFunc 80 #[.slice (some ⟨vb, 0, none⟩) 1 vc, .slice (some ⟨g, off, none⟩) lb cb]).run Try.prog w = .ok (.value (.bool false)) w := fun off lb cb => by
    rw [run_callFunc_extern Try.func80 (by kernel_rfl) (by kernel_rfl) (by kernel_rfl) (e := Extern.SlicesOverlaps.overlaps #[22, 22] #[4]) (by kernel_rfl),
      Lib.run_overlaps_apart w 22 4 65 Try.underlying22 4 hszr ⟨vb, 0, none⟩ ⟨g, off, none⟩ 1 vc lb cb hne 65 65 cur2.size cur.size (by simp [World.shape?, hgv]) (by simp [World.shape?, hg]) (by omega) (by simp [World.frozen?, hgv]) (by simp [World.frozen?, hgv])]
    rfl
  have hkw : IntKind.i64.wrap ((k : Int) + 1) = (k : Int) + 1 := by rw [IntKind.wrap_i64]; omega
  have hnw : IntKind.i64.wrap ((n : Int) + 1) = (n : Int) + 1 := by rw [IntKind.wrap_i64]; omega
  have hb1 : (0 : Int) ≤ (k : Int) + 1 := by omega
  have htn : ((k : Int) + 1).toNat = k + 1 := by omega
  have hcm' := hcm
  unfold maxLen at hcm'
  have hb2 : ¬ (c = k + 1) := by omega
  have hb3 : ¬ (c = k) := by omega
  have hin : k ≤ n := by omega
  have hin2 : (k : Int) ≤ (n : Int) := by omega
  have hin3 : (k : Int) ≤ (n : Int) + 1 := by omega
  have hin4 : k ≤ n + 1 := by omega
  have hdl : (xs.drop (k * 4)).length = (n - k) * 4 := by rw [List.length_drop, hxl, Nat.sub_mul]
  obtain ⟨C1, hC1⟩ : ∃ C1, C1 = (cur.toList.take (k * 4 + 4) ++ xs.drop (k * 4) ++ cur.toList.drop (k * 4 + 4 + (xs.drop (k * 4)).length)).toArray := ⟨_, rfl⟩
  have hk1 : (k + 1) * 4 = k * 4 + 4 := Nat.succ_mul ..
  have hnk : (n - k) * 4 = n * 4 - k * 4 := Nat.sub_mul ..
  have hC1s : C1.size = cur.size := by rw [hC1]; simp; omega
  have hcp1 : ∀ ty dc sc, (Builtin.copy_ #[22, 22] ty #[.slice (some ⟨g, k * 4 + 4, none⟩) (n - k) dc, .slice (some ⟨g, k * 4, none⟩) (n + 1 - k) sc]).run Try.prog w.drew = .ok (goInt ((n - k : Nat) : Int)) (w.drew.setRow g C1) := fun ty dc sc => by
    rw [hC1]
    exact run_copy_rowN w.drew _ _ ty 65 4 (n - k) g (k * 4 + 4) (n - k) dc ⟨g, k * 4, none⟩ (n + 1 - k) sc cur 65 (xs.drop (k * 4)) Try.underlying22 hsz (by simp only [Nat.min_def]; split <;> omega) hg hdl
      (fun j v hj => by
        rw [List.getElem?_drop] at hj
        have := hX.2 _ _ hj
        rw [show ((⟨g, k * 4, none⟩ : Addr).add j) = (⟨g, 0, none⟩ : Addr).add (k * 4 + j) by rw [Addr.add_lit, Addr.add_lit]; simp]
        exact this) (by omega) (fun v hv => h1x v (List.mem_of_mem_drop hv))
  have hg1 : (w.drew.setRow g C1).heap[g]? = some (.cells C1 65 (0, 0)) := setRow_heap w.drew g cur C1 65 (0, 0) hg
  obtain ⟨C2, hC2⟩ : ∃ C2, C2 = (C1.toList.take (k * 4) ++ vs ++ C1.toList.drop (k * 4 + vs.length)).toArray := ⟨_, rfl⟩
  have hvl' : vs.length = 4 := by omega
  have hC2s : C2.size = cur.size := by rw [hC2]; simp; omega
  have hcp2 : ∀ ty dc, (Builtin.copy_ #[22, 22] ty #[.slice (some ⟨g, k * 4, none⟩) (n + 1 - k) dc, .slice (some ⟨vb, 0, none⟩) 1 vc]).run Try.prog (w.drew.setRow g C1) = .ok (goInt ((1 : Nat) : Int)) ((w.drew.setRow g C1).setRow g C2) := fun ty dc => by
    rw [hC2]
    exact run_copy_rowN (w.drew.setRow g C1) _ _ ty 65 4 1 g (k * 4) (n + 1 - k) dc ⟨vb, 0, none⟩ 1 vc C1 65 vs Try.underlying22 hsz (by simp only [Nat.min_def]; split <;> omega) hg1 (by omega)
      (fun j v hj => by
        have h1 := hS.2 _ _ hj
        have h2 : (w.drew.setRow g C1).heap[vb]? = w.heap[vb]? := setRow_other w.drew g vb C1 hne
        rw [Addr.add_lit] at h1 ⊢
        simpa [World.cell?, h2] using h1) (by omega) h1v
  have mixed : Try.prog.follows Departure.mixedOrders = true := by kernel_rfl
  have FIN : Hid (C2.toList.take ((n + 1) * 4) = xs.take (k * 4) ++ vs ++ xs.drop (k * 4) ∧ C2.size = c * 4 ∧ (xs.take (k * 4) ++ vs ++ xs.drop (k * 4)).length = (n + 1) * 4) := by
    refine Lib.hid ⟨?_, by rw [hC2s]; exact hcs, by simp; omega⟩
    have := ins_room cur.toList xs vs (k * 4) (n * 4) 4 hp4 htk hvl' (by simpa using hc4)
    rw [hC2, hC1, hdl, hnk, hvl', show (n + 1) * 4 = n * 4 + 4 from Nat.succ_mul ..]
    simpa using this
  clear hC1 hC2 hdl hnk hxl hvl htk hcs hC1s hC2s hvl' hX hS htv hcsv hc4 hp4 hszr hsz
  go_enter Try.func69, Try.ntmps69
  go_wp2_with (simp only [hov])
  go_region_law_o (refine step_copy_runI rfl _ _ 22 22 rfl _ _ (by simp [Act.eval, Act.put]) (by simp [Act.eval, Act.put]) (hcp1 _ _ _) ?_)
  go_wp2_with (at_builtin; refine wpList_copy_runI _ rfl _ _ 22 22 rfl _ _ rfl rfl (hcp2 _ _) ?_)
  go_wp2
  go_ret
  have hgl : g < w.heap.size := (Array.getElem?_eq_some_iff.1 hg).1
  have hgr : w.grownBy ((w.drew.setRow g C1).setRow g C2) (some g) := grown_trans (grown_setRowD w g C1) (grown_setRow _ g C2)
  exact ⟨rfl, own_setRow (c0 := C1) (by simp [World.setRow]; exact hgl) hbg (by omega) hcm FIN.out.2.1 FIN.out.1 FIN.out.2.2 hg1, hgr⟩
set_option maxHeartbeats 4000000 in
set_option maxRecDepth 100000 in
theorem ins_grow_slot (base : Nat) (g n k vb vc : Nat) (xs vs : List Value) (w : World) (ho : w.ownsRow base 65 4 (.slice (some ⟨g, 0, none⟩) n n) n xs) (hv : w.ownsRow base 65 4 (.slice (some ⟨vb, 0, none⟩) 1 vc) 1 vs) (hbase : base ≤ w.heap.size) (hk : k < n) (hn : n ≤ 100000) (h1x : ∀ v ∈ xs, v.oneCell' = true) (h1v : ∀ v ∈ vs, v.oneCell' = true) :
    Calls Try.prog 69 #[.slice (some ⟨g, 0, none⟩) n n, .int .i64 k, .slice (some ⟨vb, 0, none⟩) 1 vc] w fun e w' => ∃ c', e = .returned (.slice (some ⟨w.heap.size, 0, none⟩) (n + 1) c') ∧ w'.ownsRow base 65 4 (.slice (some ⟨w.heap.size, 0, none⟩) (n + 1) c') (n + 1) (xs.take (k * 4) ++ vs ++ xs.drop (k * 4)) ∧ w.grownBy w' (some g) := by
  have hS := (Sees.of_own hv).2.2 ⟨vb, 0, none⟩ rfl
  have hX := (Sees.of_own ho).2.2 ⟨g, 0, none⟩ rfl
  have hxl := ho.1
  have hvl := hv.1
  have hgl : g < w.heap.size := (ho.lt g rfl).2
  have hvb : vb < w.heap.size := (hv.lt vb rfl).2
  have hp4 : k * 4 ≤ n * 4 := Nat.mul_le_mul_right _ (by omega)
  have hsz : (Try.prog.info? 65).map (·.size) = some 4 := by kernel_rfl
  have T0 : ElemTy Try.prog 22 65 (.agg #[.int .i64 0, .int .i64 0, .int .i64 0, .slice none 0 0]) 4 48 := ⟨Try.underlying22, by kernel_rfl, rfl, by omega, by omega⟩
  obtain ⟨i0, hi0, hz0, hzs, hzb⟩ := info_parts T0.hi
  have hkw : IntKind.i64.wrap ((k : Int) + 1) = (k : Int) + 1 := by rw [IntKind.wrap_i64]; omega
  have hnw : IntKind.i64.wrap ((n : Int) + 1) = (n : Int) + 1 := by rw [IntKind.wrap_i64]; omega
  have hnk2 : IntKind.i64.wrap ((n : Int) + 1 - (k : Int)) = (n : Int) + 1 - (k : Int) := by rw [IntKind.wrap_i64]; omega
  have hb1 : (0 : Int) ≤ (k : Int) + 1 := by omega
  have htn : ((k : Int) + 1).toNat = k + 1 := by omega
  have hb2 : ¬ (n = k) := by omega
  have hin : k ≤ n := by omega
  have hin2 : (k : Int) ≤ (n : Int) := by omega
  have hin3 : (k : Int) ≤ (n : Int) + 1 := by omega
  have hin4 : k ≤ n + 1 := by omega
  have hdl : (xs.drop (k * 4)).length = (n - k) * 4 := by rw [List.length_drop, hxl, Nat.sub_mul]
  have hk1 : (k + 1) * 4 = k * 4 + 4 := Nat.succ_mul ..
  have hnk : (n - k) * 4 = n * 4 - k * 4 := Nat.sub_mul ..
  have hn1 : (n + 1) * 4 = n * 4 + 4 := Nat.succ_mul ..
  have hvl' : vs.length = 4 := by omega
  have hik : k + (n + 1 - k) = n + 1 := by omega
  have hkk : (n : Int) + 1 - (k : Int) = ((n + 1 - k : Nat) : Int) := by omega
  have hold : (Builtin.firstCells i0.size k (.slice (some ⟨g, 0, none⟩) k n)).run Try.prog w.drew = .ok (xs.take (k * 4)).toArray w.drew := by
    rw [hzs]
    exact run_firstCells_some w.drew 4 k ⟨g, 0, none⟩ k n (xs.take (k * 4)) (by rw [List.length_take]; omega) (fun j v hj => by
      rw [List.getElem?_take] at hj
      split at hj
      · exact hX.2 j v hj
      · cases hj)
  obtain ⟨G, hG⟩ : ∃ G, G = grownCap w (n + 1) n 65 := ⟨_, rfl⟩
  obtain ⟨ZS, hZS⟩ : ∃ ZS : List Value, ZS = (Builtin.zeroCells ((.agg #[.int .i64 0, .int .i64 0, .int .i64 0, .slice none 0 0]) : Value).cells (n + 1 - k)).toList ++ (Builtin.zeroCells ((.agg #[.int .i64 0, .int .i64 0, .int .i64 0, .slice none 0 0]) : Value).cells (G - (n + 1))).toList := ⟨_, rfl⟩
  have hGn : n + 1 ≤ G := by rw [hG]; exact grownCap_ge w _ _ _
  have hGm : G ≤ maxLen := by rw [hG]; exact grownCap_le_maxLen w (n + 1) n 65 (by unfold maxLen; omega)
  have hzc : ∀ m, (Builtin.zeroCells ((.agg #[.int .i64 0, .int .i64 0, .int .i64 0, .slice none 0 0]) : Value).cells m).toList.length = m * 4 := fun m => by simp [Builtin.zeroCells, Value.cells]
  have hZl : ZS.length = G * 4 - k * 4 := by
    rw [hZS, List.length_append, hzc, hzc, ← Nat.add_mul, show n + 1 - k + (G - (n + 1)) = G - k by omega, Nat.sub_mul]
  have hG4 : (n + 1) * 4 ≤ G * 4 := Nat.mul_le_mul_right _ hGn
  obtain ⟨ROW, hROW⟩ : ∃ ROW : Array Value, ROW = (xs.take (k * 4) ++ ZS).toArray := ⟨_, rfl⟩
  have hRs : ROW.size = G * 4 := by rw [hROW]; simp; omega
  have hrz : ∀ ty, (Builtin.append_ #[22, 3] ty #[.slice (some ⟨g, 0, none⟩) k n, .int .i64 ((n : Int) + 1 - (k : Int))]).run Try.prog w =
      .ok (.slice (some ⟨w.heap.size, 0, none⟩) (n + 1) G) (w.drew.alloc (.cells ROW 65)) := fun ty => by
    have h := Lib.run_append_grow_zeros w 22 3 ty 65 i0 _ .i64 .i64 Try.underlying22 Try.underlying3 hi0 hz0 (some ⟨g, 0, none⟩) k n (xs.take (k * 4)) hold (n + 1 - k) (by omega) (by omega) (by omega) (by omega) (by rw [hzb]; omega) (by rw [hzb, hik]; exact growslice_fits (by omega) (by omega))
    rw [hik, ← hG] at h
    rw [hkk, h, hROW, hZS]
    congr 3
    simp
  obtain ⟨W1, hW1⟩ : ∃ W1, W1 = w.drew.alloc (.cells ROW 65) := ⟨_, rfl⟩
  rw [← hW1] at hrz
  have hR1 : W1.heap[w.heap.size]? = some (.cells ROW 65 (0, 0)) := by rw [hW1]; exact heap_alloc_new w.drew _
  have hlow : ∀ j, j < w.heap.size → W1.heap[j]? = w.heap[j]? := fun j hj => by rw [hW1]; exact Below.heap_alloc w.drew _ j hj
  have hW1s : W1.heap.size = w.heap.size + 1 := by rw [hW1]; simp
  have hW1o : W1.os = w.os ∧ W1.tape = w.tape ∧ W1.output = w.output := by rw [hW1]; exact ⟨rfl, rfl, rfl⟩
  obtain ⟨C1, hC1⟩ : ∃ C1, C1 = (ROW.toList.take (k * 4) ++ vs ++ ROW.toList.drop (k * 4 + vs.length)).toArray := ⟨_, rfl⟩
  have hC1s : C1.size = ROW.size := by rw [hC1]; simp; omega
  have hcpA : ∀ (W : World), W.heap = W1.heap → ∀ ty dc, (Builtin.copy_ #[22, 22] ty #[.slice (some ⟨w.heap.size, k * 4, none⟩) (n + 1 - k) dc, .slice (some ⟨vb, 0, none⟩) 1 vc]).run Try.prog W = .ok (goInt ((1 : Nat) : Int)) (W.setRow w.heap.size C1) := fun W hW ty dc => by
    rw [hC1]
    exact run_copy_rowN W _ _ ty 65 4 1 w.heap.size (k * 4) (n + 1 - k) dc ⟨vb, 0, none⟩ 1 vc ROW 65 vs Try.underlying22 hsz (by simp only [Nat.min_def]; split <;> omega) (by rw [hW]; exact hR1) (by omega)
      (fun j v hj => by
        have h1 := hS.2 _ _ hj
        have h2 : W.heap[vb]? = w.heap[vb]? := by rw [hW]; exact hlow vb hvb
        rw [Addr.add_lit] at h1 ⊢
        simpa [World.cell?, h2] using h1) (by omega) h1v
  have hg1 : ∀ W : World, W.heap = (W1.setRow w.heap.size C1).heap → W.heap[w.heap.size]? = some (.cells C1 65 (0, 0)) := fun W hW => by rw [hW]; exact setRow_heap W1 w.heap.size ROW C1 65 (0, 0) hR1
  obtain ⟨C2, hC2⟩ : ∃ C2, C2 = (C1.toList.take (k * 4 + 4) ++ xs.drop (k * 4) ++ C1.toList.drop (k * 4 + 4 + (xs.drop (k * 4)).length)).toArray := ⟨_, rfl⟩
  have hC2s : C2.size = C1.size := by rw [hC2]; simp; omega
  have hcpB : ∀ (W : World), W.heap = (W1.setRow w.heap.size C1).heap → ∀ ty dc sc, (Builtin.copy_ #[22, 22] ty #[.slice (some ⟨w.heap.size, k * 4 + 4, none⟩) (n - k) dc, .slice (some ⟨g, k * 4, none⟩) (n - k) sc]).run Try.prog W = .ok (goInt ((n - k : Nat) : Int)) (W.setRow w.heap.size C2) := fun W hW ty dc sc => by
    rw [hC2]
    exact run_copy_rowN W _ _ ty 65 4 (n - k) w.heap.size (k * 4 + 4) (n - k) dc ⟨g, k * 4, none⟩ (n - k) sc C1 65 (xs.drop (k * 4)) Try.underlying22 hsz (by simp only [Nat.min_def]; split <;> omega) (hg1 W hW) hdl
      (fun j v hj => by
        rw [List.getElem?_drop] at hj
        have h1 := hX.2 _ _ hj
        have h2 : W.heap[g]? = w.heap[g]? := by rw [hW]; exact (setRow_other W1 w.heap.size g C1 (by omega)).trans (hlow g hgl)
        rw [show ((⟨g, k * 4, none⟩ : Addr).add j) = (⟨g, 0, none⟩ : Addr).add (k * 4 + j) by rw [Addr.add_lit, Addr.add_lit]; simp]
        rw [Addr.add_lit] at h1 ⊢
        simpa [World.cell?, h2] using h1) (by omega) (fun v hv => h1x v (List.mem_of_mem_drop hv))
  have mixed : Try.prog.follows Departure.mixedOrders = true := by kernel_rfl
  have FIN : Hid (C2.toList.take ((n + 1) * 4) = xs.take (k * 4) ++ vs ++ xs.drop (k * 4) ∧ C2.size = G * 4 ∧ (xs.take (k * 4) ++ vs ++ xs.drop (k * 4)).length = (n + 1) * 4) := by
    refine Lib.hid ⟨?_, by omega, by simp; omega⟩
    have := ins_new ZS xs vs (k * 4) (n * 4) 4 hp4 (by omega) hvl' (by omega)
    rw [hC2, hC1, hROW, hdl, hnk, hvl', hn1]
    simpa using this
  have hGi : ¬ (G = k) := by omega
  have hGi2 : ¬ (G = k + 1) := by omega
  have hG63 : (G : Int) ≤ 9223372036854775807 := by unfold maxLen at hGm; omega
  have HW1 := Lib.hid hW1
  have hEE : (W1.setRow w.heap.size C1).drew.heap = (W1.setRow w.heap.size C1).heap := rfl
  have HGN := Lib.hid hGn
  clear hC1 hC2 hdl hnk hxl hvl hC1s hC2s hvl' hX hS hp4 hsz hkk hik hold hG hZS hzc hZl hROW hRs hG4 hW1 hn1 hlow hR1 hz0 hi0 hzs hzb
  go_enter Try.func69, Try.ntmps69
  go_wp2_with (first
    | (at_builtin; refine Lib.wpList_append_run _ rfl _ _ _ _ rfl _ _ rfl rfl _ _ (hrz _) ?_)
    | (at_builtin; refine wpList_copy_runI _ rfl _ _ 22 22 rfl _ _ rfl rfl (hcpA _ rfl _ _) ?_))
  go_region_law_o (refine step_copy_runI rfl _ _ 22 22 rfl (.slice (some ⟨w.heap.size, k * 4 + 4, none⟩) (n - k) (G - (k + 1))) (.slice (some ⟨g, k * 4, none⟩) (n - k) (n - k)) (by simp [Act.eval, Act.put]) (by simp [Act.eval, Act.put]) (hcpB (W1.setRow w.heap.size C1).drew hEE 3 (G - (k + 1)) (n - k)) ?_)
  go_wp2
  go_ret
  have hrow := own_setRow (w := (W1.setRow w.heap.size C1).drew) (g := w.heap.size) (base := base) (e := 65) (size := 4) (n := n + 1) (cap := G) (by simp [World.setRow]; omega) hbase (by have := HGN.out; omega) hGm FIN.out.2.1 FIN.out.1 FIN.out.2.2 (hg1 _ rfl)
  refine ⟨G, rfl, hrow, ?_⟩
  obtain ⟨o1, o2, o3⟩ := hW1o
  refine ⟨o1, o2, o3, by simp [World.setRow]; omega, fun j hj _ => ?_⟩
  have hlow : W1.heap[j]? = w.heap[j]? := by rw [HW1.out]; exact Below.heap_alloc w.drew _ j hj
  exact (setRow_other _ w.heap.size j C2 (by omega)).trans ((setRow_other W1 w.heap.size j C1 (by omega)).trans hlow)
theorem ins_any_slot (base : Nat) (A : Option Addr) (n c k vb vc : Nat) (xs vs : List Value) (w : World) (ho : w.ownsRow base 65 4 (.slice A n c) n xs) (hv : w.ownsRow base 65 4 (.slice (some ⟨vb, 0, none⟩) 1 vc) 1 vs) (hne : ∀ g, Value.ownBlock (.slice A n c) = some g → vb ≠ g) (hb : base ≤ w.heap.size) (hk : k ≤ n) (hn : n ≤ 100000) (h1x : ∀ v ∈ xs, v.oneCell' = true) (h1v : ∀ v ∈ vs, v.oneCell' = true) :
    Calls Try.prog 69 #[.slice A n c, .int .i64 k, .slice (some ⟨vb, 0, none⟩) 1 vc] w fun e w' => ∃ A' c', e = .returned (.slice A' (n + 1) c') ∧ w'.ownsRow base 65 4 (.slice A' (n + 1) c') (n + 1) (xs.take (k * 4) ++ vs ++ xs.drop (k * 4)) ∧ w.grownBy w' (Value.ownBlock (.slice A n c)) ∧
      (Value.ownBlock (.slice A' (n + 1) c') = Value.ownBlock (.slice A n c) ∨ Value.ownBlock (.slice A' (n + 1) c') = some w.heap.size) := by
  have hxl := ho.1
  rcases Nat.eq_or_lt_of_le hk with rfl | hk
  · have := ins_end_slot base A k c vb vc xs vs w ho hv hn h1v hb
    rw [← hxl, List.take_length, List.drop_length, List.append_nil]
    exact this
  · rcases ho.2 with ⟨hv0, h0⟩ | ⟨g, cap, cur, hv0, _⟩
    · omega
    injection hv0 with h1 _ h2
    subst h1 h2
    have hnc := (own_cap ho).1
    rcases Nat.eq_or_lt_of_le hnc with rfl | hnc
    · refine (ins_grow_slot base g n k vb vc xs vs w ho hv hb hk hn h1x h1v).mono ?_
      rintro e w' ⟨c', h1, h2, h3⟩
      exact ⟨_, c', h1, h2, h3, .inr rfl⟩
    · refine (ins_room_slot base g n c k vb vc xs vs w ho hv (hne g rfl) hk hn hnc h1x h1v).mono ?_
      rintro e w' ⟨h1, h2, h3⟩
      exact ⟨_, c, h1, h2, h3, .inl rfl⟩

set_option maxHeartbeats 4000000 in
set_option maxRecDepth 100000 in
theorem ins_end_deaf (base : Nat) (A : Option Addr) (n c vb vc : Nat) (xs vs : List Value) (w : World) (ho : w.ownsRow base 77 2 (.slice A n c) n xs) (hv : w.ownsRow base 77 2 (.slice (some ⟨vb, 0, none⟩) 1 vc) 1 vs) (hn : n ≤ 100000) (h1v : ∀ v ∈ vs, v.oneCell' = true) (hb : base ≤ w.heap.size) :
    Calls Try.prog 40 #[.slice A n c, .int .i64 n, .slice (some ⟨vb, 0, none⟩) 1 vc] w fun e w' => ∃ A' c', e = .returned (.slice A' (n + 1) c') ∧ w'.ownsRow base 77 2 (.slice A' (n + 1) c') (n + 1) (xs ++ vs) ∧ w.grownBy w' (Value.ownBlock (.slice A n c)) ∧
      (Value.ownBlock (.slice A' (n + 1) c') = Value.ownBlock (.slice A n c) ∨ Value.ownBlock (.slice A' (n + 1) c') = some w.heap.size) := by
  have hS := Sees.of_own hv
  have T0 : ElemTy Try.prog 23 77 (.agg #[.int .i64 0, .int .i64 0]) 2 16 := ⟨Try.underlying23, by kernel_rfl, rfl, by omega, by omega⟩
  have hnc := (own_cap ho).1
  have hcm := (own_cap ho).2
  unfold maxLen at hcm
  rcases Nat.eq_or_lt_of_le hnc with hcn | hcn
  · subst hcn
    go_enter Try.func40, Try.ntmps40
    go_wp2_with (at_builtin; refine Door.enter ?_)
    refine Door.leave (wl_append T0 ho hS rfl rfl h1v (by omega) hb rfl rfl rfl rfl ?_)
    intro A' c' w' h2 h3 h4 h5
    go_wp2
    go_ret
    exact ⟨A', c', rfl, h2, h4, h5⟩
  · obtain ⟨ad, rfl⟩ : ∃ ad, A = some ad := by
      rcases ho.2 with ⟨hv, _⟩ | ⟨g, cap, cur, hv, _⟩
      · injection hv with _ _ h3; omega
      · injection hv with h1; exact ⟨_, h1⟩
    go_enter Try.func40, Try.ntmps40
    go_wp2_with (at_builtin; refine Door.enter ?_)
    refine Door.leave (wl_append T0 ho hS rfl rfl h1v (by omega) hb rfl rfl rfl rfl ?_)
    intro A' c' w' h2 h3 h4 h5
    go_wp2
    go_ret
    exact ⟨A', c', rfl, h2, h4, h5⟩
set_option maxHeartbeats 4000000 in
set_option maxRecDepth 100000 in
theorem ins_room_deaf (base : Nat) (g n c k vb vc : Nat) (xs vs : List Value) (w : World) (ho : w.ownsRow base 77 2 (.slice (some ⟨g, 0, none⟩) n c) n xs) (hv : w.ownsRow base 77 2 (.slice (some ⟨vb, 0, none⟩) 1 vc) 1 vs) (hne : vb ≠ g) (hk : k < n) (hn : n ≤ 100000) (hroom : n < c) (h1x : ∀ v ∈ xs, v.oneCell' = true) (h1v : ∀ v ∈ vs, v.oneCell' = true) :
    Calls Try.prog 40 #[.slice (some ⟨g, 0, none⟩) n c, .int .i64 k, .slice (some ⟨vb, 0, none⟩) 1 vc] w fun e w' => e = .returned (.slice (some ⟨g, 0, none⟩) (n + 1) c) ∧ w'.ownsRow base 77 2 (.slice (some ⟨g, 0, none⟩) (n + 1) c) (n + 1) (xs.take (k * 2) ++ vs ++ xs.drop (k * 2)) ∧ w.grownBy w' (some g) := by
  have hS := (Sees.of_own hv).2.2 ⟨vb, 0, none⟩ rfl
  have hX := (Sees.of_own ho).2.2 ⟨g, 0, none⟩ rfl
  have hxl := ho.1
  have hvl := hv.1
  have hnc := (own_cap ho).1
  have hcm := (own_cap ho).2
  rcases ho.2 with ⟨hv0, _⟩ | ⟨g', cap, cur, hv0, hbg, hg, _, _, hcs, htk⟩
  · cases hv0
  injection hv0 with h0 _ h2
  injection h0 with h0
  injection h0 with h0
  subst h0 h2
  rcases hv.2 with ⟨hv1, _⟩ | ⟨g', cap, cur2, hv1, hbv, hgv, _, _, hcsv, htv⟩
  · cases hv1
  injection hv1 with h0 _ h2
  injection h0 with h0
  injection h0 with h0
  subst h0 h2
  have hp4 : k * 2 ≤ n * 2 := Nat.mul_le_mul_right _ (by omega)
  have hc4 : n * 2 + 2 ≤ cur.size := by rw [hcs]; have := Nat.mul_le_mul_right 2 (show n + 1 ≤ c by omega); omega
  have hsz : (Try.prog.info? 77).map (·.size) = some 2 := by kernel_rfl
  have hszr : ∀ w, (Go.sizeOf 77).run Try.prog w = .ok 2 w := fun w => by
    cases hq : Try.prog.info? 77 with
    | none => simp [hq] at hsz
    | some i =>
      have hi : i.size = 2 := by simpa [hq] using hsz
      simp [sizeOf, typeInfo, hq, hi]
  have hov : ∀ off lb cb, (callFunc 64 #[.slice (some ⟨vb, 0, none⟩) 1 vc, .slice (some ⟨g, off, none⟩) lb cb]).run Try.prog w = .ok (.value (.bool false)) w := fun off lb cb => by
    rw [run_callFunc_extern Try.func64 (by kernel_rfl) (by kernel_rfl) (by kernel_rfl) (e := Extern.SlicesOverlaps.overlaps #[23, 23] #[4]) (by kernel_rfl),
      Lib.run_overlaps_apart w 23 4 77 Try.underlying23 2 hszr ⟨vb, 0, none⟩ ⟨g, off, none⟩ 1 vc lb cb hne 77 77 cur2.size cur.size (by simp [World.shape?, hgv]) (by simp [World.shape?, hg]) (by omega) (by simp [World.frozen?, hgv]) (by simp [World.frozen?, hgv])]
    rfl
  have hkw : IntKind.i64.wrap ((k : Int) + 1) = (k : Int) + 1 := by rw [IntKind.wrap_i64]; omega
  have hnw : IntKind.i64.wrap ((n : Int) + 1) = (n : Int) + 1 := by rw [IntKind.wrap_i64]; omega
  have hb1 : (0 : Int) ≤ (k : Int) + 1 := by omega
  have htn : ((k : Int) + 1).toNat = k + 1 := by omega
  have hcm' := hcm
  unfold maxLen at hcm'
  have hb2 : ¬ (c = k + 1) := by omega
  have hb3 : ¬ (c = k) := by omega
  have hin : k ≤ n := by omega
  have hin2 : (k : Int) ≤ (n : Int) := by omega
  have hin3 : (k : Int) ≤ (n : Int) + 1 := by omega
  have hin4 : k ≤ n + 1 := by omega
  have hdl : (xs.drop (k * 2)).length = (n - k) * 2 := by rw [List.length_drop, hxl, Nat.sub_mul]
  obtain ⟨C1, hC1⟩ : ∃ C1, C1 = (cur.toList.take (k * 2 + 2) ++ xs.drop (k * 2) ++ cur.toList.drop (k * 2 + 2 + (xs.drop (k * 2)).length)).toArray := ⟨_, rfl⟩
  have hk1 : (k + 1) * 2 = k * 2 + 2 := Nat.succ_mul ..
  have hnk : (n - k) * 2 = n * 2 - k * 2 := Nat.sub_mul ..
  have hC1s : C1.size = cur.size := by rw [hC1]; simp; omega
  have hcp1 : ∀ ty dc sc, (Builtin.copy_ #[23, 23] ty #[.slice (some ⟨g, k * 2 + 2, none⟩) (n - k) dc, .slice (some ⟨g, k * 2, none⟩) (n + 1 - k) sc]).run Try.prog w.drew = .ok (goInt ((n - k : Nat) : Int)) (w.drew.setRow g C1) := fun ty dc sc => by
    rw [hC1]
    exact run_copy_rowN w.drew _ _ ty 77 2 (n - k) g (k * 2 + 2) (n - k) dc ⟨g, k * 2, none⟩ (n + 1 - k) sc cur 77 (xs.drop (k * 2)) Try.underlying23 hsz (by simp only [Nat.min_def]; split <;> omega) hg hdl
      (fun j v hj => by
        rw [List.getElem?_drop] at hj
        have := hX.2 _ _ hj
        rw [show ((⟨g, k * 2, none⟩ : Addr).add j) = (⟨g, 0, none⟩ : Addr).add (k * 2 + j) by rw [Addr.add_lit, Addr.add_lit]; simp]
        exact this) (by omega) (fun v hv => h1x v (List.mem_of_mem_drop hv))
  have hg1 : (w.drew.setRow g C1).heap[g]? = some (.cells C1 77 (0, 0)) := setRow_heap w.drew g cur C1 77 (0, 0) hg
  obtain ⟨C2, hC2⟩ : ∃ C2, C2 = (C1.toList.take (k * 2) ++ vs ++ C1.toList.drop (k * 2 + vs.length)).toArray := ⟨_, rfl⟩
  have hvl' : vs.length = 2 := by omega
  have hC2s : C2.size = cur.size := by rw [hC2]; simp; omega
  have hcp2 : ∀ ty dc, (Builtin.copy_ #[23, 23] ty #[.slice (some ⟨g, k * 2, none⟩) (n + 1 - k) dc, .slice (some ⟨vb, 0, none⟩) 1 vc]).run Try.prog (w.drew.setRow g C1) = .ok (goInt ((1 : Nat) : Int)) ((w.drew.setRow g C1).setRow g C2) := fun ty dc => by
    rw [hC2]
    exact run_copy_rowN (w.drew.setRow g C1) _ _ ty 77 2 1 g (k * 2) (n + 1 - k) dc ⟨vb, 0, none⟩ 1 vc C1 77 vs Try.underlying23 hsz (by simp only [Nat.min_def]; split <;> omega) hg1 (by omega)
      (fun j v hj => by
        have h1 := hS.2 _ _ hj
        have h2 : (w.drew.setRow g C1).heap[vb]? = w.heap[vb]? := setRow_other w.drew g vb C1 hne
        rw [Addr.add_lit] at h1 ⊢
        simpa [World.cell?, h2] using h1) (by omega) h1v
  have mixed : Try.prog.follows Departure.mixedOrders = true := by kernel_rfl
  have FIN : Hid (C2.toList.take ((n + 1) * 2) = xs.take (k * 2) ++ vs ++ xs.drop (k * 2) ∧ C2.size = c * 2 ∧ (xs.take (k * 2) ++ vs ++ xs.drop (k * 2)).length = (n + 1) * 2) := by
    refine Lib.hid ⟨?_, by rw [hC2s]; exact hcs, by simp; omega⟩
    have := ins_room cur.toList xs vs (k * 2) (n * 2) 2 hp4 htk hvl' (by simpa using hc4)
    rw [hC2, hC1, hdl, hnk, hvl', show (n + 1) * 2 = n * 2 + 2 from Nat.succ_mul ..]
    simpa using this
  clear hC1 hC2 hdl hnk hxl hvl htk hcs hC1s hC2s hvl' hX hS htv hcsv hc4 hp4 hszr hsz
  go_enter Try.func40, Try.ntmps40
  go_wp2_with (simp only [hov])
  go_region_law_o (refine step_copy_runI rfl _ _ 23 23 rfl _ _ (by simp [Act.eval, Act.put]) (by simp [Act.eval, Act.put]) (hcp1 _ _ _) ?_)
  go_wp2_with (at_builtin; refine wpList_copy_runI _ rfl _ _ 23 23 rfl _ _ rfl rfl (hcp2 _ _) ?_)
  go_wp2
  go_ret
  have hgl : g < w.heap.size := (Array.getElem?_eq_some_iff.1 hg).1
  have hgr : w.grownBy ((w.drew.setRow g C1).setRow g C2) (some g) := grown_trans (grown_setRowD w g C1) (grown_setRow _ g C2)
  exact ⟨rfl, own_setRow (c0 := C1) (by simp [World.setRow]; exact hgl) hbg (by omega) hcm FIN.out.2.1 FIN.out.1 FIN.out.2.2 hg1, hgr⟩
set_option maxHeartbeats 4000000 in
set_option maxRecDepth 100000 in
theorem ins_grow_deaf (base : Nat) (g n k vb vc : Nat) (xs vs : List Value) (w : World) (ho : w.ownsRow base 77 2 (.slice (some ⟨g, 0, none⟩) n n) n xs) (hv : w.ownsRow base 77 2 (.slice (some ⟨vb, 0, none⟩) 1 vc) 1 vs) (hbase : base ≤ w.heap.size) (hk : k < n) (hn : n ≤ 100000) (h1x : ∀ v ∈ xs, v.oneCell' = true) (h1v : ∀ v ∈ vs, v.oneCell' = true) :
    Calls Try.prog 40 #[.slice (some ⟨g, 0, none⟩) n n, .int .i64 k, .slice (some ⟨vb, 0, none⟩) 1 vc] w fun e w' => ∃ c', e = .returned (.slice (some ⟨w.heap.size, 0, none⟩) (n + 1) c') ∧ w'.ownsRow base 77 2 (.slice (some ⟨w.heap.size, 0, none⟩) (n + 1) c') (n + 1) (xs.take (k * 2) ++ vs ++ xs.drop (k * 2)) ∧ w.grownBy w' (some g) := by
  have hS := (Sees.of_own hv).2.2 ⟨vb, 0, none⟩ rfl
  have hX := (Sees.of_own ho).2.2 ⟨g, 0, none⟩ rfl
  have hxl := ho.1
  have hvl := hv.1
  have hgl : g < w.heap.size := (ho.lt g rfl).2
  have hvb : vb < w.heap.size := (hv.lt vb rfl).2
  have hp4 : k * 2 ≤ n * 2 := Nat.mul_le_mul_right _ (by omega)
  have hsz : (Try.prog.info? 77).map (·.size) = some 2 := by kernel_rfl
  have T0 : ElemTy Try.prog 23 77 (.agg #[.int .i64 0, .int .i64 0]) 2 16 := ⟨Try.underlying23, by kernel_rfl, rfl, by omega, by omega⟩
  obtain ⟨i0, hi0, hz0, hzs, hzb⟩ := info_parts T0.hi
  have hkw : IntKind.i64.wrap ((k : Int) + 1) = (k : Int) + 1 := by rw [IntKind.wrap_i64]; omega
  have hnw : IntKind.i64.wrap ((n : Int) + 1) = (n : Int) + 1 := by rw [IntKind.wrap_i64]; omega
  have hnk2 : IntKind.i64.wrap ((n : Int) + 1 - (k : Int)) = (n : Int) + 1 - (k : Int) := by rw [IntKind.wrap_i64]; omega
  have hb1 : (0 : Int) ≤ (k : Int) + 1 := by omega
  have htn : ((k : Int) + 1).toNat = k + 1 := by omega
  have hb2 : ¬ (n = k) := by omega
  have hin : k ≤ n := by omega
  have hin2 : (k : Int) ≤ (n : Int) := by omega
  have hin3 : (k : Int) ≤ (n : Int) + 1 := by omega
  have hin4 : k ≤ n + 1 := by omega
  have hdl : (xs.drop (k * 2)).length = (n - k) * 2 := by rw [List.length_drop, hxl, Nat.sub_mul]
  have hk1 : (k + 1) * 2 = k * 2 + 2 := Nat.succ_mul ..
  have hnk : (n - k) * 2 = n * 2 - k * 2 := Nat.sub_mul ..
  have hn1 : (n + 1) * 2 = n * 2 + 2 := Nat.succ_mul ..
  have hvl' : vs.length = 2 := by omega
  have hik : k + (n + 1 - k) = n + 1 := by omega
  have hkk : (n : Int) + 1 - (k : Int) = ((n + 1 - k : Nat) : Int) := by omega
  have hold : (Builtin.firstCells i0.size k (.slice (some ⟨g, 0, none⟩) k n)).run Try.prog w.drew = .ok (xs.take (k * 2)).toArray w.drew := by
    rw [hzs]
    exact run_firstCells_some w.drew 2 k ⟨g, 0, none⟩ k n (xs.take (k * 2)) (by rw [List.length_take]; omega) (fun j v hj => by
      rw [List.getElem?_take] at hj
      split at hj
      · exact hX.2 j v hj
      · cases hj)
  obtain ⟨G, hG⟩ : ∃ G, G = grownCap w (n + 1) n 77 := ⟨_, rfl⟩
  obtain ⟨ZS, hZS⟩ : ∃ ZS : List Value, ZS = (Builtin.zeroCells ((.agg #[.int .i64 0, .int .i64 0]) : Value).cells (n + 1 - k)).toList ++ (Builtin.zeroCells ((.agg #[.int .i64 0, .int .i64 0]) : Value).cells (G - (n + 1))).toList := ⟨_, rfl⟩
  have hGn : n + 1 ≤ G := by rw [hG]; exact grownCap_ge w _ _ _
  have hGm : G ≤ maxLen := by rw [hG]; exact grownCap_le_maxLen w (n + 1) n 77 (by unfold maxLen; omega)
  have hzc : ∀ m, (Builtin.zeroCells ((.agg #[.int .i64 0, .int .i64 0]) : Value).cells m).toList.length = m * 2 := fun m => by simp [Builtin.zeroCells, Value.cells]
  have hZl : ZS.length = G * 2 - k * 2 := by
    rw [hZS, List.length_append, hzc, hzc, ← Nat.add_mul, show n + 1 - k + (G - (n + 1)) = G - k by omega, Nat.sub_mul]
  have hG4 : (n + 1) * 2 ≤ G * 2 := Nat.mul_le_mul_right _ hGn
  obtain ⟨ROW, hROW⟩ : ∃ ROW : Array Value, ROW = (xs.take (k * 2) ++ ZS).toArray := ⟨_, rfl⟩
  have hRs : ROW.size = G * 2 := by rw [hROW]; simp; omega
  have hrz : ∀ ty, (Builtin.append_ #[23, 3] ty #[.slice (some ⟨g, 0, none⟩) k n, .int .i64 ((n : Int) + 1 - (k : Int))]).run Try.prog w =
      .ok (.slice (some ⟨w.heap.size, 0, none⟩) (n + 1) G) (w.drew.alloc (.cells ROW 77)) := fun ty => by
    have h := Lib.run_append_grow_zeros w 23 3 ty 77 i0 _ .i64 .i64 Try.underlying23 Try.underlying3 hi0 hz0 (some ⟨g, 0, none⟩) k n (xs.take (k * 2)) hold (n + 1 - k) (by omega) (by omega) (by omega) (by omega) (by rw [hzb]; omega) (by rw [hzb, hik]; exact growslice_fits (by omega) (by omega))
    rw [hik, ← hG] at h
    rw [hkk, h, hROW, hZS]
    congr 3
    simp
  obtain ⟨W1, hW1⟩ : ∃ W1, W1 = w.drew.alloc (.cells ROW 77) := ⟨_, rfl⟩
  rw [← hW1] at hrz
  have hR1 : W1.heap[w.heap.size]? = some (.cells ROW 77 (0, 0)) := by rw [hW1]; exact heap_alloc_new w.drew _
  have hlow : ∀ j, j < w.heap.size → W1.heap[j]? = w.heap[j]? := fun j hj => by rw [hW1]; exact Below.heap_alloc w.drew _ j hj
  have hW1s : W1.heap.size = w.heap.size + 1 := by rw [hW1]; simp
  have hW1o : W1.os = w.os ∧ W1.tape = w.tape ∧ W1.output = w.output := by rw [hW1]; exact ⟨rfl, rfl, rfl⟩
  obtain ⟨C1, hC1⟩ : ∃ C1, C1 = (ROW.toList.take (k * 2) ++ vs ++ ROW.toList.drop (k * 2 + vs.length)).toArray := ⟨_, rfl⟩
  have hC1s : C1.size = ROW.size := by rw [hC1]; simp; omega
  have hcpA : ∀ (W : World), W.heap = W1.heap → ∀ ty dc, (Builtin.copy_ #[23, 23] ty #[.slice (some ⟨w.heap.size, k * 2, none⟩) (n + 1 - k) dc, .slice (some ⟨vb, 0, none⟩) 1 vc]).run Try.prog W = .ok (goInt ((1 : Nat) : Int)) (W.setRow w.heap.size C1) := fun W hW ty dc => by
    rw [hC1]
    exact run_copy_rowN W _ _ ty 77 2 1 w.heap.size (k * 2) (n + 1 - k) dc ⟨vb, 0, none⟩ 1 vc ROW 77 vs Try.underlying23 hsz (by simp only [Nat.min_def]; split <;> omega) (by rw [hW]; exact hR1) (by omega)
      (fun j v hj => by
        have h1 := hS.2 _ _ hj
        have h2 : W.heap[vb]? = w.heap[vb]? := by rw [hW]; exact hlow vb hvb
        rw [Addr.add_lit] at h1 ⊢
        simpa [World.cell?, h2] using h1) (by omega) h1v
  have hg1 : ∀ W : World, W.heap = (W1.setRow w.heap.size C1).heap → W.heap[w.heap.size]? = some (.cells C1 77 (0, 0)) := fun W hW => by rw [hW]; exact setRow_heap W1 w.heap.size ROW C1 77 (0, 0) hR1
  obtain ⟨C2, hC2⟩ : ∃ C2, C2 = (C1.toList.take (k * 2 + 2) ++ xs.drop (k * 2) ++ C1.toList.drop (k * 2 + 2 + (xs.drop (k * 2)).length)).toArray := ⟨_, rfl⟩
  have hC2s : C2.size = C1.size := by rw [hC2]; simp; omega
  have hcpB : ∀ (W : World), W.heap = (W1.setRow w.heap.size C1).heap → ∀ ty dc sc, (Builtin.copy_ #[23, 23] ty #[.slice (some ⟨w.heap.size, k * 2 + 2, none⟩) (n - k) dc, .slice (some ⟨g, k * 2, none⟩) (n - k) sc]).run Try.prog W = .ok (goInt ((n - k : Nat) : Int)) (W.setRow w.heap.size C2) := fun W hW ty dc sc => by
    rw [hC2]
    exact run_copy_rowN W _ _ ty 77 2 (n - k) w.heap.size (k * 2 + 2) (n - k) dc ⟨g, k * 2, none⟩ (n - k) sc C1 77 (xs.drop (k * 2)) Try.underlying23 hsz (by simp only [Nat.min_def]; split <;> omega) (hg1 W hW) hdl
      (fun j v hj => by
        rw [List.getElem?_drop] at hj
        have h1 := hX.2 _ _ hj
        have h2 : W.heap[g]? = w.heap[g]? := by rw [hW]; exact (setRow_other W1 w.heap.size g C1 (by omega)).trans (hlow g hgl)
        rw [show ((⟨g, k * 2, none⟩ : Addr).add j) = (⟨g, 0, none⟩ : Addr).add (k * 2 + j) by rw [Addr.add_lit, Addr.add_lit]; simp]
        rw [Addr.add_lit] at h1 ⊢
        simpa [World.cell?, h2] using h1) (by omega) (fun v hv => h1x v (List.mem_of_mem_drop hv))
  have mixed : Try.prog.follows Departure.mixedOrders = true := by kernel_rfl
  have FIN : Hid (C2.toList.take ((n + 1) * 2) = xs.take (k * 2) ++ vs ++ xs.drop (k * 2) ∧ C2.size = G * 2 ∧ (xs.take (k * 2) ++ vs ++ xs.drop (k * 2)).length = (n + 1) * 2) := by
    refine Lib.hid ⟨?_, by omega, by simp; omega⟩
    have := ins_new ZS xs vs (k * 2) (n * 2) 2 hp4 (by omega) hvl' (by omega)
    rw [hC2, hC1, hROW, hdl, hnk, hvl', hn1]
    simpa using this
  have hGi : ¬ (G = k) := by omega
  have hGi2 : ¬ (G = k + 1) := by omega
  have hG63 : (G : Int) ≤ 9223372036854775807 := by unfold maxLen at hGm; omega
  have HW1 := Lib.hid hW1
  have hEE : (W1.setRow w.heap.size C1).drew.heap = (W1.setRow w.heap.size C1).heap := rfl
  have HGN := Lib.hid hGn
  clear hC1 hC2 hdl hnk hxl hvl hC1s hC2s hvl' hX hS hp4 hsz hkk hik hold hG hZS hzc hZl hROW hRs hG4 hW1 hn1 hlow hR1 hz0 hi0 hzs hzb
  go_enter Try.func40, Try.ntmps40
  go_wp2_with (first
    | (at_builtin; refine Lib.wpList_append_run _ rfl _ _ _ _ rfl _ _ rfl rfl _ _ (hrz _) ?_)
    | (at_builtin; refine wpList_copy_runI _ rfl _ _ 23 23 rfl _ _ rfl rfl (hcpA _ rfl _ _) ?_))
  go_region_law_o (refine step_copy_runI rfl _ _ 23 23 rfl (.slice (some ⟨w.heap.size, k * 2 + 2, none⟩) (n - k) (G - (k + 1))) (.slice (some ⟨g, k * 2, none⟩) (n - k) (n - k)) (by simp [Act.eval, Act.put]) (by simp [Act.eval, Act.put]) (hcpB (W1.setRow w.heap.size C1).drew hEE 3 (G - (k + 1)) (n - k)) ?_)
  go_wp2
  go_ret
  have hrow := own_setRow (w := (W1.setRow w.heap.size C1).drew) (g := w.heap.size) (base := base) (e := 77) (size := 2) (n := n + 1) (cap := G) (by simp [World.setRow]; omega) hbase (by have := HGN.out; omega) hGm FIN.out.2.1 FIN.out.1 FIN.out.2.2 (hg1 _ rfl)
  refine ⟨G, rfl, hrow, ?_⟩
  obtain ⟨o1, o2, o3⟩ := hW1o
  refine ⟨o1, o2, o3, by simp [World.setRow]; omega, fun j hj _ => ?_⟩
  have hlow : W1.heap[j]? = w.heap[j]? := by rw [HW1.out]; exact Below.heap_alloc w.drew _ j hj
  exact (setRow_other _ w.heap.size j C2 (by omega)).trans ((setRow_other W1 w.heap.size j C1 (by omega)).trans hlow)
theorem ins_any_deaf (base : Nat) (A : Option Addr) (n c k vb vc : Nat) (xs vs : List Value) (w : World) (ho : w.ownsRow base 77 2 (.slice A n c) n xs) (hv : w.ownsRow base 77 2 (.slice (some ⟨vb, 0, none⟩) 1 vc) 1 vs) (hne : ∀ g, Value.ownBlock (.slice A n c) = some g → vb ≠ g) (hb : base ≤ w.heap.size) (hk : k ≤ n) (hn : n ≤ 100000) (h1x : ∀ v ∈ xs, v.oneCell' = true) (h1v : ∀ v ∈ vs, v.oneCell' = true) :
    Calls Try.prog 40 #[.slice A n c, .int .i64 k, .slice (some ⟨vb, 0, none⟩) 1 vc] w fun e w' => ∃ A' c', e = .returned (.slice A' (n + 1) c') ∧ w'.ownsRow base 77 2 (.slice A' (n + 1) c') (n + 1) (xs.take (k * 2) ++ vs ++ xs.drop (k * 2)) ∧ w.grownBy w' (Value.ownBlock (.slice A n c)) ∧
      (Value.ownBlock (.slice A' (n + 1) c') = Value.ownBlock (.slice A n c) ∨ Value.ownBlock (.slice A' (n + 1) c') = some w.heap.size) := by
  have hxl := ho.1
  rcases Nat.eq_or_lt_of_le hk with rfl | hk
  · have := ins_end_deaf base A k c vb vc xs vs w ho hv hn h1v hb
    rw [← hxl, List.take_length, List.drop_length, List.append_nil]
    exact this
  · rcases ho.2 with ⟨hv0, h0⟩ | ⟨g, cap, cur, hv0, _⟩
    · omega
    injection hv0 with h1 _ h2
    subst h1 h2
    have hnc := (own_cap ho).1
    rcases Nat.eq_or_lt_of_le hnc with rfl | hnc
    · refine (ins_grow_deaf base g n k vb vc xs vs w ho hv hb hk hn h1x h1v).mono ?_
      rintro e w' ⟨c', h1, h2, h3⟩
      exact ⟨_, c', h1, h2, h3, .inr rfl⟩
    · refine (ins_room_deaf base g n c k vb vc xs vs w ho hv (hne g rfl) hk hn hnc h1x h1v).mono ?_
      rintro e w' ⟨h1, h2, h3⟩
      exact ⟨_, c, h1, h2, h3, .inl rfl⟩
end Go.Proofs.Ytmhmldpccccjbaa

namespace Go.Proofs.Ytmhmldpccccjbaa
open Go.RowKit
set_option linter.unusedVariables false
set_option linter.unusedSimpArgs false

theorem step_append_runI {P : Program} {ops : Array Oper} {o : Oper} {a : Act} {w : World} {K : Act → World → Prop} {Q : Exit → Act → World → Prop} {E : Prop}
    (hg : o.guard = none) (d x : Operand) (dT sT : TypeId) (hop : o.op = Op.call { callee := Callee.builtin Builtin.append, args := #[d, x], argTypes := #[dT, sT] })
    (v u : Value) (hd : a.eval d = v) (hx : a.eval x = u) {v' : Value} {w' : World} (hr : (Builtin.append_ #[dT, sT] o.type #[v, u]).run P w = .ok v' w') (hK : K (a.put o.dst v') w') :
    if Region.wanted o (yielded ops a.tmps) = true then Oper.wp P o a w K Q else E := by
  have hw : Region.wanted o (yielded ops a.tmps) = true := by simp [Region.wanted, hg]
  rw [if_pos hw]
  unfold Oper.wp
  simp [execOp, hop, resolve, invoke, builtin, hd, hx, hr, Result.andThen]
  exact hK
theorem run_clear_rowN {P : Program} (w : World) (t e ty : TypeId) (z : Value) (g o c sz : Nat) (cur : Array Value) (te : TypeId) (ht : P.underlying t = some (.slice e)) (hv : ∀ w, (zeroValue e).run P w = .ok z w) (hz : z.cells.size = sz) (h1 : ∀ v ∈ z.cells.toList, v.oneCell' = true)
    (hg : w.heap[g]? = some (.cells cur te (0, 0))) (hfit : o + sz ≤ cur.size) :
    (Builtin.clear_ #[t] ty #[.slice (some ⟨g, o, none⟩) 1 c]).run P w = .ok (.tuple #[]) (w.setRow g (cur.toList.take o ++ z.cells.toList ++ cur.toList.drop (o + sz)).toArray) := by
  have hzc : (Builtin.zeroCells z.cells 1).toList = z.cells.toList := by
    simp [Builtin.zeroCells]
    apply List.ext_getElem
    · simp
    · intro i h1 h2
      have h3 : i < z.cells.size := by simpa using h2
      simp [Nat.mod_eq_of_lt h3, h3]
  have hst := run_storeCells_at P g o te z.cells.toList 0 cur w hg (by simp; omega) h1
  simp only [Nat.add_zero] at hst
  rw [show z.cells.toList.length = sz by simpa using hz] at hst
  simp [Builtin.clear_, run_underlying ht, hv, hzc, hst]
theorem del_room {α : Type} (cur xs zs : List α) (p q s : Nat) (hp : p + s ≤ q) (hx : cur.take q = xs) (hge : q ≤ cur.length) :
    ((cur.take p ++ xs.drop (p + s) ++ cur.drop (p + (q - (p + s)))).take (q - s) ++ zs ++ (cur.take p ++ xs.drop (p + s) ++ cur.drop (p + (q - (p + s)))).drop (q - s + s)).take (q - s) = xs.take p ++ xs.drop (p + s) := by
  have h0 : p ≤ q := by omega
  · have hxl : xs.length = q := by rw [← hx, List.length_take]; omega
    have h1 : (cur.take p ++ xs.drop (p + s) ++ cur.drop (p + (q - (p + s)))).take (q - s) = xs.take p ++ xs.drop (p + s) := by
      rw [List.take_append_of_le_length (by simp; omega), List.take_of_length_le (by simp; omega), ← hx, List.take_take]
      congr 2
      omega
    rw [h1, List.append_assoc, List.take_append_of_le_length (by simp; omega), List.take_of_length_le (by simp; omega)]

set_option maxHeartbeats 4000000 in
set_option maxRecDepth 100000 in
theorem del_any_slot (base : Nat) (A : Option Addr) (n c k : Nat) (xs : List Value) (w : World) (ho : w.ownsRow base 65 4 (.slice A n c) n xs) (hk : k < n) (hn : n ≤ 100000) (h1x : ∀ v ∈ xs, v.oneCell' = true) :
    Calls Try.prog 75 #[.slice A n c, .int .i64 k, .int .i64 ((k : Int) + 1)] w fun e w' => e = .returned (.slice A (n - 1) c) ∧ w'.ownsRow base 65 4 (.slice A (n - 1) c) (n - 1) (xs.take (k * 4) ++ xs.drop ((k + 1) * 4)) ∧ w.grownBy w' (Value.ownBlock (.slice A n c)) := by
  have hX := (Sees.of_own ho).2.2
  have hxl := ho.1
  have hnc := (own_cap ho).1
  have hcm := (own_cap ho).2
  rcases ho.2 with ⟨hv0, h0⟩ | ⟨g, cap, cur, hv0, hbg, hg, _, _, hcs, htk⟩
  · omega
  injection hv0 with h0 _ h2
  subst h0 h2
  replace hX := hX ⟨g, 0, none⟩ rfl
  have hcm' := hcm
  unfold maxLen at hcm'
  have T0 : ElemTy Try.prog 22 65 (.agg #[.int .i64 0, .int .i64 0, .int .i64 0, .slice none 0 0]) 4 48 := ⟨Try.underlying22, by kernel_rfl, rfl, by omega, by omega⟩
  obtain ⟨i0, hi0, hz0, hzs, hzb⟩ := info_parts T0.hi
  have hk1 : (k + 1) * 4 = k * 4 + 4 := Nat.succ_mul ..
  have hp4 : k * 4 + 4 ≤ n * 4 := by rw [← hk1]; exact Nat.mul_le_mul_right _ (by omega)
  have hc4 : n * 4 ≤ cur.size := by rw [hcs]; exact Nat.mul_le_mul_right _ hnc
  have hn1 : (n - 1) * 4 = n * 4 - 4 := by rw [Nat.sub_mul, Nat.one_mul]
  have hnk : (n - (k + 1)) * 4 = n * 4 - (k * 4 + 4) := by rw [Nat.sub_mul, hk1]
  have hdl : (xs.drop (k * 4 + 4)).length = n * 4 - (k * 4 + 4) := by rw [List.length_drop, hxl]
  obtain ⟨C1, hC1⟩ : ∃ C1, C1 = (cur.toList.take (k * 4) ++ xs.drop (k * 4 + 4) ++ cur.toList.drop (k * 4 + (xs.drop (k * 4 + 4)).length)).toArray := ⟨_, rfl⟩
  have hC1s : C1.size = cur.size := by rw [hC1]; simp; omega
  obtain ⟨ad, hA, hsrc⟩ : ∃ ad : Addr, (if c = k + 1 then some (⟨g, 0, none⟩ : Addr) else some ⟨g, k * 4 + 4, none⟩) = some ad ∧ ∀ j u, (xs.drop (k * 4 + 4))[j]? = some u → w.drew.cell? (ad.add j) = some u := by
    by_cases h : c = k + 1
    · refine ⟨⟨g, 0, none⟩, by simp [h], fun t u hu => ?_⟩
      have h0 : (xs.drop (k * 4 + 4)).length = 0 := by
        rw [hdl]
        have : n = k + 1 := by omega
        rw [this, hk1]; omega
      rw [List.length_eq_zero_iff.1 h0] at hu
      simp at hu
    · refine ⟨⟨g, k * 4 + 4, none⟩, by simp [h], fun t u hu => ?_⟩
      rw [List.getElem?_drop] at hu
      have := hX.2 _ _ hu
      rw [show ((⟨g, k * 4 + 4, none⟩ : Addr).add t) = (⟨g, 0, none⟩ : Addr).add (k * 4 + 4 + t) by rw [Addr.add_lit, Addr.add_lit]; simp]
      exact this
  have hap : ∀ ty dc, (Builtin.append_ #[22, 22] ty #[.slice (some ⟨g, 0, none⟩) k c, .slice (some ad) (n - (k + 1)) dc]).run Try.prog w.drew = .ok (.slice (some ⟨g, 0, none⟩) (k + (n - (k + 1))) c) (w.drew.setRow g C1) := fun ty dc => by
    rw [hC1]
    have := run_append_room (P := Try.prog) w.drew 22 ty 65 i0 Try.underlying22 hi0 g k c cur hg ad (n - (k + 1)) dc (xs.drop (k * 4 + 4)) (by rw [hzs]; omega) hsrc (fun v hv => h1x v (List.mem_of_mem_drop hv)) (by omega) (by rw [hzs]; omega)
    rw [hzs] at this
    exact this
  have hg1 : (w.drew.setRow g C1).heap[g]? = some (.cells C1 65 (0, 0)) := setRow_heap w.drew g cur C1 65 (0, 0) hg
  obtain ⟨C2, hC2⟩ : ∃ C2, C2 = (C1.toList.take ((n - 1) * 4) ++ ((.agg #[.int .i64 0, .int .i64 0, .int .i64 0, .slice none 0 0]) : Value).cells.toList ++ C1.toList.drop ((n - 1) * 4 + 4)).toArray := ⟨_, rfl⟩
  have hC2s : C2.size = C1.size := by rw [hC2]; simp [Value.cells]; omega
  have hcl : ∀ ty dc, (Builtin.clear_ #[22] ty #[.slice (some ⟨g, (n - 1) * 4, none⟩) 1 dc]).run Try.prog (w.drew.setRow g C1) = .ok (.tuple #[]) ((w.drew.setRow g C1).setRow g C2) := fun ty dc => by
    rw [hC2]
    exact run_clear_rowN (w.drew.setRow g C1) 22 65 ty (.agg #[.int .i64 0, .int .i64 0, .int .i64 0, .slice none 0 0]) g ((n - 1) * 4) dc 4 C1 65 Try.underlying22 (fun w => by simp [zeroValue, typeInfo, hi0, hz0]) rfl (by simp [Value.cells, Value.oneCell']) hg1 (by omega)
  have mixed : Try.prog.follows Departure.mixedOrders = true := by kernel_rfl
  have FIN : Hid (C2.toList.take ((n - 1) * 4) = xs.take (k * 4) ++ xs.drop ((k + 1) * 4) ∧ C2.size = c * 4 ∧ (xs.take (k * 4) ++ xs.drop ((k + 1) * 4)).length = (n - 1) * 4) := by
    refine Lib.hid ⟨?_, by omega, by simp; omega⟩
    have := del_room cur.toList xs ((.agg #[.int .i64 0, .int .i64 0, .int .i64 0, .slice none 0 0]) : Value).cells.toList (k * 4) (n * 4) 4 hp4 htk (by simpa using hc4)
    rw [hC2, hC1, hdl, hn1, hk1]
    simpa using this
  have hb1 : (0 : Int) ≤ (k : Int) + 1 := by omega
  have htn : ((k : Int) + 1).toNat = k + 1 := by omega
  have HKK := Lib.hid (show k + (n - (k + 1)) = n - 1 by omega)
  have hin : k ≤ n := by omega
  have hin2 : (k : Int) ≤ (n : Int) := by omega
  have hin3 : (k : Int) + 1 ≤ (n : Int) := by omega
  have hin4 : k + 1 ≤ n := by omega
  have hin5 : (k : Int) + 1 ≤ (c : Int) := by omega
  have hin6 : (k : Int) ≤ (c : Int) := by omega
  have hin7 : (k : Int) ≤ (k : Int) + 1 := by omega
  have hne : ¬ ((k : Int) = (k : Int) + 1) := by omega
  have hgl : g < w.heap.size := (Array.getElem?_eq_some_iff.1 hg).1
  clear hC1 hC2 hdl hnk hxl hcs hC1s hC2s hX hc4 hp4 hn1 hsrc hi0 hz0 hzs hzb htk
  go_enter Try.func75, Try.ntmps75
  go_wp2_with fail
  go_region_law_o (refine step_append_runI rfl (.tmp 22) (.tmp 25) 22 22 rfl (.slice (some ⟨g, 0, none⟩) k c) (.slice (some ad) (n - (k + 1)) (c - (k + 1))) (by simp [Act.eval, Act.put]) (by simp [Act.eval, Act.put]) (hap _ _) ?_)
  rw [HKK.out]
  go_wp2_with fail
  rw [show n - (n - 1) = 1 by omega, hcl]
  go_wp2
  go_ret
  have hgr : w.grownBy ((w.drew.setRow g C1).setRow g C2) (some g) := grown_trans (grown_setRowD w g C1) (grown_setRow _ g C2)
  exact ⟨rfl, own_setRow (c0 := C1) (by simp [World.setRow]; exact hgl) hbg (by omega) hcm FIN.out.2.1 FIN.out.1 FIN.out.2.2 hg1, hgr⟩

set_option maxHeartbeats 4000000 in
set_option maxRecDepth 100000 in
theorem del_any_deaf (base : Nat) (A : Option Addr) (n c k : Nat) (xs : List Value) (w : World) (ho : w.ownsRow base 77 2 (.slice A n c) n xs) (hk : k < n) (hn : n ≤ 100000) (h1x : ∀ v ∈ xs, v.oneCell' = true) :
    Calls Try.prog 42 #[.slice A n c, .int .i64 k, .int .i64 ((k : Int) + 1)] w fun e w' => e = .returned (.slice A (n - 1) c) ∧ w'.ownsRow base 77 2 (.slice A (n - 1) c) (n - 1) (xs.take (k * 2) ++ xs.drop ((k + 1) * 2)) ∧ w.grownBy w' (Value.ownBlock (.slice A n c)) := by
  have hX := (Sees.of_own ho).2.2
  have hxl := ho.1
  have hnc := (own_cap ho).1
  have hcm := (own_cap ho).2
  rcases ho.2 with ⟨hv0, h0⟩ | ⟨g, cap, cur, hv0, hbg, hg, _, _, hcs, htk⟩
  · omega
  injection hv0 with h0 _ h2
  subst h0 h2
  replace hX := hX ⟨g, 0, none⟩ rfl
  have hcm' := hcm
  unfold maxLen at hcm'
  have T0 : ElemTy Try.prog 23 77 (.agg #[.int .i64 0, .int .i64 0]) 2 16 := ⟨Try.underlying23, by kernel_rfl, rfl, by omega, by omega⟩
  obtain ⟨i0, hi0, hz0, hzs, hzb⟩ := info_parts T0.hi
  have hk1 : (k + 1) * 2 = k * 2 + 2 := Nat.succ_mul ..
  have hp4 : k * 2 + 2 ≤ n * 2 := by rw [← hk1]; exact Nat.mul_le_mul_right _ (by omega)
  have hc4 : n * 2 ≤ cur.size := by rw [hcs]; exact Nat.mul_le_mul_right _ hnc
  have hn1 : (n - 1) * 2 = n * 2 - 2 := by rw [Nat.sub_mul, Nat.one_mul]
  have hnk : (n - (k + 1)) * 2 = n * 2 - (k * 2 + 2) := by rw [Nat.sub_mul, hk1]
  have hdl : (xs.drop (k * 2 + 2)).length = n * 2 - (k * 2 + 2) := by rw [List.length_drop, hxl]
  obtain ⟨C1, hC1⟩ : ∃ C1, C1 = (cur.toList.take (k * 2) ++ xs.drop (k * 2 + 2) ++ cur.toList.drop (k * 2 + (xs.drop (k * 2 + 2)).length)).toArray := ⟨_, rfl⟩
  have hC1s : C1.size = cur.size := by rw [hC1]; simp; omega
  obtain ⟨ad, hA, hsrc⟩ : ∃ ad : Addr, (if c = k + 1 then some (⟨g, 0, none⟩ : Addr) else some ⟨g, k * 2 + 2, none⟩) = some ad ∧ ∀ j u, (xs.drop (k * 2 + 2))[j]? = some u → w.drew.cell? (ad.add j) = some u := by
    by_cases h : c = k + 1
    · refine ⟨⟨g, 0, none⟩, by simp [h], fun t u hu => ?_⟩
      have h0 : (xs.drop (k * 2 + 2)).length = 0 := by
        rw [hdl]
        have : n = k + 1 := by omega
        rw [this, hk1]; omega
      rw [List.length_eq_zero_iff.1 h0] at hu
      simp at hu
    · refine ⟨⟨g, k * 2 + 2, none⟩, by simp [h], fun t u hu => ?_⟩
      rw [List.getElem?_drop] at hu
      have := hX.2 _ _ hu
      rw [show ((⟨g, k * 2 + 2, none⟩ : Addr).add t) = (⟨g, 0, none⟩ : Addr).add (k * 2 + 2 + t) by rw [Addr.add_lit, Addr.add_lit]; simp]
      exact this
  have hap : ∀ ty dc, (Builtin.append_ #[23, 23] ty #[.slice (some ⟨g, 0, none⟩) k c, .slice (some ad) (n - (k + 1)) dc]).run Try.prog w.drew = .ok (.slice (some ⟨g, 0, none⟩) (k + (n - (k + 1))) c) (w.drew.setRow g C1) := fun ty dc => by
    rw [hC1]
    have := run_append_room (P := Try.prog) w.drew 23 ty 77 i0 Try.underlying23 hi0 g k c cur hg ad (n - (k + 1)) dc (xs.drop (k * 2 + 2)) (by rw [hzs]; omega) hsrc (fun v hv => h1x v (List.mem_of_mem_drop hv)) (by omega) (by rw [hzs]; omega)
    rw [hzs] at this
    exact this
  have hg1 : (w.drew.setRow g C1).heap[g]? = some (.cells C1 77 (0, 0)) := setRow_heap w.drew g cur C1 77 (0, 0) hg
  obtain ⟨C2, hC2⟩ : ∃ C2, C2 = (C1.toList.take ((n - 1) * 2) ++ ((.agg #[.int .i64 0, .int .i64 0]) : Value).cells.toList ++ C1.toList.drop ((n - 1) * 2 + 2)).toArray := ⟨_, rfl⟩
  have hC2s : C2.size = C1.size := by rw [hC2]; simp [Value.cells]; omega
  have hcl : ∀ ty dc, (Builtin.clear_ #[23] ty #[.slice (some ⟨g, (n - 1) * 2, none⟩) 1 dc]).run Try.prog (w.drew.setRow g C1) = .ok (.tuple #[]) ((w.drew.setRow g C1).setRow g C2) := fun ty dc => by
    rw [hC2]
    exact run_clear_rowN (w.drew.setRow g C1) 23 77 ty (.agg #[.int .i64 0, .int .i64 0]) g ((n - 1) * 2) dc 2 C1 77 Try.underlying23 (fun w => by simp [zeroValue, typeInfo, hi0, hz0]) rfl (by simp [Value.cells, Value.oneCell']) hg1 (by omega)
  have mixed : Try.prog.follows Departure.mixedOrders = true := by kernel_rfl
  have FIN : Hid (C2.toList.take ((n - 1) * 2) = xs.take (k * 2) ++ xs.drop ((k + 1) * 2) ∧ C2.size = c * 2 ∧ (xs.take (k * 2) ++ xs.drop ((k + 1) * 2)).length = (n - 1) * 2) := by
    refine Lib.hid ⟨?_, by omega, by simp; omega⟩
    have := del_room cur.toList xs ((.agg #[.int .i64 0, .int .i64 0]) : Value).cells.toList (k * 2) (n * 2) 2 hp4 htk (by simpa using hc4)
    rw [hC2, hC1, hdl, hn1, hk1]
    simpa using this
  have hb1 : (0 : Int) ≤ (k : Int) + 1 := by omega
  have htn : ((k : Int) + 1).toNat = k + 1 := by omega
  have HKK := Lib.hid (show k + (n - (k + 1)) = n - 1 by omega)
  have hin : k ≤ n := by omega
  have hin2 : (k : Int) ≤ (n : Int) := by omega
  have hin3 : (k : Int) + 1 ≤ (n : Int) := by omega
  have hin4 : k + 1 ≤ n := by omega
  have hin5 : (k : Int) + 1 ≤ (c : Int) := by omega
  have hin6 : (k : Int) ≤ (c : Int) := by omega
  have hin7 : (k : Int) ≤ (k : Int) + 1 := by omega
  have hne : ¬ ((k : Int) = (k : Int) + 1) := by omega
  have hgl : g < w.heap.size := (Array.getElem?_eq_some_iff.1 hg).1
  clear hC1 hC2 hdl hnk hxl hcs hC1s hC2s hX hc4 hp4 hn1 hsrc hi0 hz0 hzs hzb htk
  go_enter Try.func42, Try.ntmps42
  go_wp2_with fail
  go_region_law_o (refine step_append_runI rfl (.tmp 22) (.tmp 25) 23 23 rfl (.slice (some ⟨g, 0, none⟩) k c) (.slice (some ad) (n - (k + 1)) (c - (k + 1))) (by simp [Act.eval, Act.put]) (by simp [Act.eval, Act.put]) (hap _ _) ?_)
  rw [HKK.out]
  go_wp2_with fail
  rw [show n - (n - 1) = 1 by omega, hcl]
  go_wp2
  go_ret
  have hgr : w.grownBy ((w.drew.setRow g C1).setRow g C2) (some g) := grown_trans (grown_setRowD w g C1) (grown_setRow _ g C2)
  exact ⟨rfl, own_setRow (c0 := C1) (by simp [World.setRow]; exact hgl) hbg (by omega) hcm FIN.out.2.1 FIN.out.1 FIN.out.2.2 hg1, hgr⟩
end Go.Proofs.Ytmhmldpccccjbaa

namespace Go.Proofs.Ytmhmldpccccjbaa
open Go.RowKit
set_option linter.unusedVariables false
set_option linter.unusedSimpArgs false

theorem insC_slot : InsC Try.prog 69 65 4 := ins_any_slot
theorem insC_deaf : InsC Try.prog 40 77 2 := ins_any_deaf
theorem delC_slot : DelC Try.prog 75 65 4 := del_any_slot
theorem delC_deaf : DelC Try.prog 42 77 2 := del_any_deaf

set_option maxHeartbeats 1600000 in
theorem clone_slot : CloneC Try.prog 66 65 4 := ⟨by kernel_rfl, by omega, fun A m c xs w hs hm h1 => by
  have T0 : ElemTy Try.prog 22 65 (.agg #[.int .i64 0, .int .i64 0, .int .i64 0, .slice none 0 0]) 4 48 := ⟨Try.underlying22, by kernel_rfl, rfl, by omega, by omega⟩
  rcases A with _ | ad
  · have hq0 := hs.2.1 rfl
    subst hq0
    have HP := Lib.hid hs.empty
    have hnil := fun (w : World) => Lib.run_eql_slice_nil (P := Try.prog) w 22 65 (none) 0 c 0 0 Try.underlying22
    go_enter Try.func66, Try.ntmps66
    go_wp2
    go_ret
    exact ⟨none, 0, rfl, by rw [HP.out]; exact World.ownsRow_nil _ _ _ _, Below.refl _ _⟩
  · have hnil := fun (w : World) => Lib.run_eql_slice_nil (P := Try.prog) w 22 65 (some ad) m c 0 0 Try.underlying22
    go_enter Try.func66, Try.ntmps66
    go_wp2_with (at_builtin; refine Door.enter ?_)
    refine Door.leave (wl_append T0 (base := w.heap.size) (World.ownsRow_lit w #[] 0 (Nat.le_refl _) (by simp [maxLen]) (by simp)) (hs.alloc _) (Nat.zero_add _) (List.nil_append _) h1 (by omega) (by simp) rfl rfl rfl rfl ?_)
    intro A' c' w' h2 h3 h4 h5
    go_wp2
    go_ret
    exact ⟨A', c', rfl, h2, ((Below.refl _ w).alloc (Nat.le_refl _) _).trans h3⟩⟩

set_option maxHeartbeats 1600000 in
theorem clone_deaf : CloneC Try.prog 29 77 2 := ⟨by kernel_rfl, by omega, fun A m c xs w hs hm h1 => by
  have T0 : ElemTy Try.prog 23 77 (.agg #[.int .i64 0, .int .i64 0]) 2 16 := ⟨Try.underlying23, by kernel_rfl, rfl, by omega, by omega⟩
  rcases A with _ | ad
  · have hq0 := hs.2.1 rfl
    subst hq0
    have HP := Lib.hid hs.empty
    have hnil := fun (w : World) => Lib.run_eql_slice_nil (P := Try.prog) w 23 77 (none) 0 c 0 0 Try.underlying23
    go_enter Try.func29, Try.ntmps29
    go_wp2
    go_ret
    exact ⟨none, 0, rfl, by rw [HP.out]; exact World.ownsRow_nil _ _ _ _, Below.refl _ _⟩
  · have hnil := fun (w : World) => Lib.run_eql_slice_nil (P := Try.prog) w 23 77 (some ad) m c 0 0 Try.underlying23
    go_enter Try.func29, Try.ntmps29
    go_wp2_with (at_builtin; refine Door.enter ?_)
    refine Door.leave (wl_append T0 (base := w.heap.size) (World.ownsRow_lit w #[] 0 (Nat.le_refl _) (by simp [maxLen]) (by simp)) (hs.alloc _) (Nat.zero_add _) (List.nil_append _) h1 (by omega) (by simp) rfl rfl rfl rfl ?_)
    intro A' c' w' h2 h3 h4 h5
    go_wp2
    go_ret
    exact ⟨A', c', rfl, h2, ((Below.refl _ w).alloc (Nat.le_refl _) _).trans h3⟩⟩

set_option maxHeartbeats 1600000 in
theorem clone_byte : CloneC Try.prog 30 5 1 := ⟨by kernel_rfl, by omega, fun A m c xs w hs hm h1 => by
  have T0 : ElemTy Try.prog 50 5 (.int .u8 0) 1 1 := ⟨Try.underlying50, by kernel_rfl, rfl, by omega, by omega⟩
  rcases A with _ | ad
  · have hq0 := hs.2.1 rfl
    subst hq0
    have HP := Lib.hid hs.empty
    have hnil := fun (w : World) => Lib.run_eql_slice_nil (P := Try.prog) w 50 5 (none) 0 c 0 0 Try.underlying50
    go_enter Try.func30, Try.ntmps30
    go_wp2
    go_ret
    exact ⟨none, 0, rfl, by rw [HP.out]; exact World.ownsRow_nil _ _ _ _, Below.refl _ _⟩
  · have hnil := fun (w : World) => Lib.run_eql_slice_nil (P := Try.prog) w 50 5 (some ad) m c 0 0 Try.underlying50
    go_enter Try.func30, Try.ntmps30
    go_wp2_with (at_builtin; refine Door.enter ?_)
    refine Door.leave (wl_append T0 (base := w.heap.size) (World.ownsRow_lit w #[] 0 (Nat.le_refl _) (by simp [maxLen]) (by simp)) (hs.alloc _) (Nat.zero_add _) (List.nil_append _) h1 (by omega) (by simp) rfl rfl rfl rfl ?_)
    intro A' c' w' h2 h3 h4 h5
    go_wp2
    go_ret
    exact ⟨A', c', rfl, h2, ((Below.refl _ w).alloc (Nat.le_refl _) _).trans h3⟩⟩
end Go.Proofs.Ytmhmldpccccjbaa

namespace Go.Proofs.Ytmhmldpccccjbaa
open Go.RowKit
set_option linter.unusedVariables false
set_option linter.unusedSimpArgs false

/-- A slot: its number, from whom, to whom, the bytes. -/
structure Sl where
  a : Int
  f : Int
  t : Int
  b : List Int
def slC (c : Bool) (s : Sl) : List TV := [.v (.int .i64 s.a), .v (.int .i64 s.f), .v (.int .i64 s.t), .sl c (s.b.map by1)]
def dfC (d : Int × Int) : List TV := [.v (.int .i64 d.1), .v (.int .i64 d.2)]
theorem nl_by1 (l : List Int) : NlLL (l.map by1) := .map fun x _ => .cons (nlv _) .nil
theorem nl_sl (c : Bool) (l : List Sl) : NlLL (l.map (slC c)) := .map fun s _ => .cons (nlv _) (.cons (nlv _) (.cons (nlv _) (.cons (nl_by1 _).sl .nil)))
theorem nl_df (l : List (Int × Int)) : NlLL (l.map dfC) := .map fun d _ => .cons (nlv _) (.cons (nlv _) .nil)
theorem untag_by1 (l : List Int) : untagLL (l.map by1) = l.map by1 := by rw [untagLL_map]; rfl
theorem untag_sl (c : Bool) (l : List Sl) : untagLL (l.map (slC c)) = l.map (slC false) := by
  rw [untagLL_map]
  exact List.map_congr_left fun s _ => by simp only [slC, untagL, untag, untag_by1]
theorem untag_df (l : List (Int × Int)) : untagLL (l.map dfC) = l.map dfC := by rw [untagLL_map]; rfl
theorem pu_by1 (l : List Int) : PuLL (l.map by1) := PuLL_map _ _ fun x _ => by simp [by1, PuL, Pu]
theorem pu_sl (c : Bool) (l : List Sl) : PuLL (l.map (slC c)) := PuLL_map _ _ fun s _ => by simp [slC, PuL, Pu, pu_by1]
theorem pu_df (l : List (Int × Int)) : PuLL (l.map dfC) := PuLL_map _ _ fun d _ => by simp [dfC, PuL, Pu]
theorem fr_by1 (l : List Int) : FrLL (l.map by1) := FrLL_map _ _ fun x _ => by simp [by1, FrL, Fr]
theorem fr_sl (l : List Sl) : FrLL (l.map (slC true)) := FrLL_map _ _ fun s _ => by simp [slC, FrL, Fr, fr_by1]
theorem fr_df (l : List (Int × Int)) : FrLL (l.map dfC) := FrLL_map _ _ fun d _ => by simp [dfC, FrL, Fr]
theorem sl_len (c : Bool) (l : List Sl) : ∀ x ∈ l.map (slC c), x.length = 4 := fun x hx => by obtain ⟨s, _, rfl⟩ := List.mem_map.1 hx; rfl
theorem sl_one (c : Bool) (l : List Sl) : ∀ x ∈ l.map (slC c), x.all TV.one = true := fun x hx => by obtain ⟨s, _, rfl⟩ := List.mem_map.1 hx; rfl
theorem df_len (l : List (Int × Int)) : ∀ x ∈ l.map dfC, x.length = 2 := fun x hx => by obtain ⟨s, _, rfl⟩ := List.mem_map.1 hx; rfl
theorem df_one (l : List (Int × Int)) : ∀ x ∈ l.map dfC, x.all TV.one = true := fun x hx => by obtain ⟨s, _, rfl⟩ := List.mem_map.1 hx; rfl
theorem by_len (l : List Int) : ∀ x ∈ l.map by1, x.length = 1 := fun x hx => by obtain ⟨s, _, rfl⟩ := List.mem_map.1 hx; rfl
theorem by_one (l : List Int) : ∀ x ∈ l.map by1, x.all TV.one = true := fun x hx => by obtain ⟨s, _, rfl⟩ := List.mem_map.1 hx; rfl
/-- A net. -/
structure NetA where
  s : List Sl
  l : Int
  d : List (Int × Int)
def netT (b b' c : Bool) (n : NetA) : TV := .agg [.sl b (n.s.map (slC b')), .v (.int .i64 n.l), .sl c (n.d.map dfC)]
/-- What stands in numbers. -/
def I64 (x : Int) : Prop := -9223372036854775808 ≤ x ∧ x < 9223372036854775808
structure Sl.Ok (s : Sl) : Prop where
  a : I64 s.a
  f : I64 s.f
  t : I64 s.t
  n : s.b.length ≤ 100000
structure NetA.Ok (n : NetA) : Prop where
  s : ∀ x ∈ n.s, x.Ok
  sn : n.s.length ≤ 1000
  l : I64 n.l
  d : ∀ x ∈ n.d, I64 x.1 ∧ I64 x.2
  dn : n.d.length ≤ 1000
def nodeB (n : Int) : Bool := decide (1 ≤ n) && decide (n ≤ 8)
def pkB (f t : Int) (n : Nat) : Bool := nodeB f && nodeB t && !decide (f = t) && decide (n ≤ 70000)
def cmpN (a b : Int) : Int := if a < b then -1 else if b < a then 1 else 0
def ordN (a b : Int × Int) : Int := if cmpN a.1 b.1 = 0 then cmpN a.2 b.2 else cmpN a.1 b.1
end Go.Proofs.Ytmhmldpccccjbaa
