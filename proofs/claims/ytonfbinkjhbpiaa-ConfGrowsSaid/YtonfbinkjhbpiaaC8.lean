/- The walks of the conf layer: members as bytes. No condition. -/
import Derived.Test.YtonfbinkjhbpiaaC7
namespace Go.Proofs.Ytonfbinkjhbpiaa
open Go.RowKit Go.Shelf
set_option linter.unusedVariables false

attribute [local go_sem] Oper.semAt_some

theorem info_u8 : (Try.prog.info? 5).map (fun i => (i.zero, i.size, i.bytes)) = some (some (.int .u8 0), 1, 1) := by kernel_rfl

/-- Members' bytes; nothing, if they may not be. -/
def encL (l : List Int) : List Int := if rightB l = true then (sizeN (ofS l) : Int) :: memS (ofS l) else []
/-- What a function that makes bytes and an error answers. -/
def MadeB (w : World) (L : List Int) (E : Int) (e : Ending) (w' : World) : Prop :=
  ∃ A n c, e = .returned (.tuple #[.slice A n c, .int .i64 E]) ∧ w'.ownsRow w.heap.size 5 1 (.slice A n c) n (ib .u8 L) ∧ Below w.heap.size w w'

theorem mem_memS {X : Nat} {x : Int} (h : x ∈ memS X) : 1 ≤ x ∧ x ≤ 5 := by
  have := (List.mem_filter.1 h).1
  simp at this
  omega
theorem boxed_of {W W' : World} {B : Nat} {t : TypeId} {v : Value} (h : Boxed W B t v) (hb : Below W.heap.size W W') : Boxed W' B t v := (hb.block _ h.lt).trans h

set_option maxRecDepth 100000 in
set_option maxHeartbeats 2000000 in
theorem encode_in {e1 : Option TypeId} (nn : Nat) (hnn : 5 ≤ nn) (A : Option Addr) (n c : Nat) (l : List Int) (w : World) (hs : Sees w e1 1 A n (ib .i64 l)) (hn : n ≤ 1000000000000) (hr : rightB l = true) :
    CallsIn Fence.wide nn Try.prog 22 #[cf A n c] w (MadeB w (encL l) 0) := by
  have h1 : 1 ≤ nn := by omega
  obtain ⟨i0, hi, hz0, hz1, hz2⟩ := info_parts info_u8
  have hE : askE l = 0 := by unfold askE; rw [hr]; rfl
  have hX0 : askX l = ofS l := by unfold askX; rw [hr]; rfl
  have hL : encL l = (sizeN (ofS l) : Int) :: memS (ofS l) := by unfold encL; rw [hr]; rfl
  rw [hL]
  have hX := ofS_lt l
  have h2 := ofS_even l
  have H5 := sizeN_le (ofS l)
  obtain ⟨X, HX⟩ : ∃ X, X = ofS l := ⟨_, rfl⟩
  rw [← HX] at hX h2 H5 hX0 ⊢
  clear HX hr hL
  have hw8 : IntKind.u8.wrap (sizeN X : Int) = (sizeN X : Int) := by rw [IntKind.wrap_u8]; omega
  have HK1 : CallsIn Fence.wide (nn - 1) Try.prog 40 #[cf A n c] (w.alloc (.cells #[.slice A n c] 27)) (fun e w' => e = .returned (.tuple #[.int .u64 X, .int .i64 0]) ∧ Below (w.alloc (.cells #[.slice A n c] 27)).heap.size (w.alloc (.cells #[.slice A n c] 27)) w') :=
    callsIn_wide.2 (by have := asked_any A n c l _ (hs.alloc (.cells #[.slice A n c] 27)) hn; rw [hE, hX0] at this; exact this)
  have HK2 : ∀ W, CallsIn Fence.wide (nn - 1) Try.prog 44 #[.int .u64 X] W (fun e w' => e = .returned (.int .i64 (sizeN X)) ∧ W = w') := fun W => callsIn_wide.2 (size_any X hX h2 W)
  have HK3 : ∀ W, CallsIn Fence.wide (nn - 1) Try.prog 45 #[.int .u64 X] W (fun e w' => e = .returned (.func (.func 51) #[] #[.pointer (some ⟨W.heap.size, 0, none⟩)]) ∧ w' = W.alloc (.cells #[.int .u64 X] 66)) := fun W => callsIn_wide.2 (numbers_any X W)
  have hF1 : Fence.wide.fn 40 := trivial
  have hF2 : Fence.wide.fn 44 := trivial
  have hF3 : Fence.wide.fn 45 := trivial
  have HB0 := Lib.hid ((Below.refl _ w).alloc (Nat.le_refl _) (.cells #[.slice A n c] 27))
  clear hE hX0
  refine callsIn_of_wp_marks Try.func22 rfl trivial ?_ rfl
  simp only [Try.ntmps22, List.size_toArray, List.length_cons, List.length_nil, Nat.reduceAdd, Nat.reduceSub, Array.replicate_succ, Array.replicate_zero, List.push_toArray, List.append_toArray, List.nil_append, List.cons_append]
  gi_wp2_with (first
    | (gi_at_call 40; refine HK1.mono ?_; rintro e w1 ⟨rfl, hb⟩)
    | (gi_at_call 44; refine (HK2 _).mono ?_; rintro e w2 ⟨rfl, rfl⟩)
    | (gi_at_call 45; refine (HK3 _).mono ?_; rintro e w3 ⟨rfl, rfl⟩))
  have hbw := HB0.out.trans (hb.mono HB0.out.size)
  clear HK1 HK2 HK3 hF1 hF2 hF3 HB0 hb
  have bO := (Boxed.new (w1.alloc (.cells #[.int .u8 (sizeN X)] 5)) 38 (.slice (some ⟨w1.heap.size, 0, none⟩) 1 1)).alloc (.cells #[.int .u64 X] 66)
  have bN := Boxed.new ((w1.alloc (.cells #[.int .u8 (sizeN X)] 5)).alloc (.cells #[.slice (some ⟨w1.heap.size, 0, none⟩) 1 1] 38)) 66 (.int .u64 X)
  have bR := (Blk.new w1 5 #[.int .u8 (sizeN X)]).alloc (.cells #[.slice (some ⟨w1.heap.size, 0, none⟩) 1 1] 38) |>.alloc (.cells #[.int .u64 X] 66)
  have hB1 : Below w1.heap.size w1 (((w1.alloc (.cells #[.int .u8 (sizeN X)] 5)).alloc (.cells #[.slice (some ⟨w1.heap.size, 0, none⟩) 1 1] 38)).alloc (.cells #[.int .u64 X] 66)) := (((Below.refl _ w1).alloc (Nat.le_refl _) _).alloc (by simp) _).alloc (by simp; omega) _
  simp only [World.size_alloc] at bO bN
  have hsz : (((w1.alloc (.cells #[.int .u8 (sizeN X)] 5)).alloc (.cells #[.slice (some ⟨w1.heap.size, 0, none⟩) 1 1] 38)).alloc (.cells #[.int .u64 X] 66)).heap.size = w1.heap.size + 3 := by simp
  obtain ⟨W0, hW0⟩ : ∃ W0, ((w1.alloc (.cells #[.int .u8 (sizeN X)] 5)).alloc (.cells #[.slice (some ⟨w1.heap.size, 0, none⟩) 1 1] 38)).alloc (.cells #[.int .u64 X] 66) = W0 := ⟨_, rfl⟩
  rw [hW0] at bO bN bR hB1 hsz ⊢
  clear hW0
  have hR0 : W0.ownsRow w1.heap.size 5 1 (.slice (some ⟨w1.heap.size, 0, none⟩) 1 1) 1 (ib .u8 [(sizeN X : Int)]) :=
    ⟨rfl, .inr ⟨w1.heap.size, 1, #[.int .u8 (sizeN X)], rfl, Nat.le_refl _, bR, by omega, by simp [maxLen], by simp, by simp [ib]⟩⟩
  refine wpIn_rangeFunc_ownG rfl h1 (gf := 51) (lb := #[.pointer (some ⟨w1.heap.size + 1 + 1, 0, none⟩)]) rfl trivial (enters_of Try.func51 (by kernel_rfl) rfl)
    (numbers_stopsC (nn - 1) (by omega) (w1.heap.size + 1 + 1) X hX W0 (by omega) bN.cell) keepC_t keepC_b (Below.refl _ _) (fun _ => rfl)
    (fun pre W => ((∃ v, Boxed W (w1.heap.size + 1) 38 v ∧ W.ownsRow w1.heap.size 5 1 v (pre.length + 1) (ib .u8 ((sizeN X : Int) :: pre.map IntKind.u8.wrap)) ∧ True) ∧ Boxed W (w1.heap.size + 1 + 1) 66 (.int .u64 X)) ∧ Below w1.heap.size w1 W)
    (fun _ _ _ => False)
    (OwnFrom.and (OwnFrom.and (Own.from (holdsRow_own w1.heap.size (w1.heap.size + 1) 38 5 1 (fun pre : List Int => pre.length + 1) (fun pre => ib .u8 ((sizeN X : Int) :: pre.map IntKind.u8.wrap)) (fun pre v => True)) _) (Own.from (boxed_own _ _ _) _)) (ownFrom_below (Nat.le_refl _) (by omega)))
    (fun _ _ _ _ _ hs _ _ => hs)
    ⟨⟨⟨_, bO, hR0, trivial⟩, bN⟩, hB1⟩
    (fun x => { tmps := #[cf A n c, .pointer (some ⟨w.heap.size, 0, none⟩), .slice none 0 0, .int .i64 0, .int .u64 X, .int .i64 0, .pointer (some ⟨w1.heap.size + 1, 0, none⟩), .int .i64 x, .tuple #[.int .u64 X, .int .i64 0], .agg #[.slice A n c], .tuple #[.int .u64 X, .int .i64 0], .int .u64 X, .int .i64 0, .int .i64 0, .bool false, undef, .int .u64 X, .int .i64 (sizeN X), .int .u8 (sizeN X), .slice (some ⟨w1.heap.size, 0, none⟩) 1 1, .int .u64 X, .func (.func 51) #[] #[.pointer (some ⟨w1.heap.size + 1 + 1, 0, none⟩)], .int .i64 x, undef, undef, undef, undef, undef, undef], defers := [] }) ?assign ?body ?done ?stop
  case assign =>
    intro l x W K hK
    gi_wp2
    exact hK
  case body =>
    rintro l pre x W ⟨⟨⟨v, hv, hrow, -⟩, hx⟩, hB⟩ hlt
    have hc := hv.cell
    gi_wp2_with (gi_at_builtin; refine wpListIn_append_own _ rfl _ _ 38 rfl w1.heap.size 5 i0 (.int .u8 0) 1 1 Try.underlying38 hi hz0 hz1 hz2 rfl (by decide) _ _ _ rfl (hrow.alloc _) ⟨W.heap.size, 0, none⟩ 1 1 [.int .u8 (IntKind.u8.wrap x)] rfl rfl (cell_one_new _ _ _) (by simp [Value.oneCell']) (by simp only [maxLen]; omega) (by omega) (by have := hB.size; simp; omega) ?_; intro v' w2 hown' hgrow _; obtain ⟨g', cap', rfl⟩ := ownsRow_succ hown'; obtain ⟨hv1, hv2, hr2, hk2, hb2⟩ := hv.appended (by decide) hrow hB.size (by omega) hown' hgrow; have hc1 := hv1.cell; have hf1 := hv1.frozen)
    have hx1 := ((hx.alloc _).kept hgrow (hx.not_row (by decide) hrow)).kept (grownBy_setCell' w2 (w1.heap.size + 1) (.slice (some ⟨g', 0, none⟩) (pre.length + 1 + 1) cap')) (by simp)
    refine ⟨hk2.from _, fun _ => hx1.cell, ⟨⟨_, hv2, ?_, trivial⟩, hx1⟩, hB.trans hb2⟩
    rw [List.length_append, List.map_append, ← List.cons_append]
    simp only [List.map_cons, List.map_nil]
    rw [← ib_snoc']
    exact hr2
  case done =>
    rintro D ys W hD rfl ⟨⟨⟨v, hv, hrow, -⟩, hx⟩, hB⟩ hK
    have hc := hv.cell
    obtain ⟨A', c', rfl⟩ := own_form hrow
    gi_wp2
    refine ⟨by simp, .inl ⟨_, _, rfl, run_takeDeferred hK, ?_⟩⟩
    have hm : (memS X).map IntKind.u8.wrap = memS X := by
      conv => rhs; rw [← List.map_id (memS X)]
      refine List.map_congr_left fun x hx => ?_
      have := mem_memS hx
      rw [IntKind.wrap_u8]
      simp
      omega
    rw [hm] at hrow
    exact ⟨.tuple #[.slice A' ((memS X).length + 1) c', .int .i64 0], by simp [results, Try.results22, go_sem], A', _, c', rfl, own_mono (ownsRow_putObj hrow _ hK rfl) hbw.size, hbw.trans ((hB.trans (belowK_b (w := w1) (Nat.le_refl _) W D _ _ (by omega) hK rfl rfl)).mono hbw.size)⟩
  case stop =>
    rintro D c pre W _ _ h _
    exact h.elim
end Go.Proofs.Ytonfbinkjhbpiaa
