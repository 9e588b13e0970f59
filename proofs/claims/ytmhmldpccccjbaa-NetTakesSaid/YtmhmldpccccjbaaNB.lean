/- Nets as trees. No condition. -/
import Derived.Test.YtmhmldpccccjbaaND
import Derived.Test.YtmhmldpccccjbaaU15
import Derived.Test.YtmhmldpccccjbaaU5
import Derived.Test.YtmhmldpccccjbaaU6
import Derived.Test.YtmhmldpccccjbaaU7
import Derived.Test.YtmhmldpccccjbaaU10
import Derived.Test.YtmhmldpccccjbaaU12
import Derived.Test.YtmhmldpccccjbaaU13
namespace Go.Proofs.Ytmhmldpccccjbaa
open Go.RowKit
set_option linter.unusedVariables false
set_option linter.unusedSimpArgs false

theorem insC_slot : InsC Try.prog 69 65 4 := ins_any_slot
theorem delC_slot : DelC Try.prog 75 65 4 := del_any_slot
set_option maxHeartbeats 1600000 in
theorem clone_slot : CloneC Try.prog 66 65 4 := ⟨by kernel_rfl, by omega, fun A m c xs w hs hm h1 => by
  have T0 : ElemTy Try.prog 22 65 (.agg #[.int .i64 0, .int .i64 0, .int .i64 0, .slice none 0 0]) 4 48 := ⟨Try.underlying22, by kernel_rfl, rfl, by omega, by omega⟩
  rcases A with _ | ad
  · have hq0 := hs.2.1 rfl
    subst hq0
    have HP := Lib.hid hs.empty
    have hnil := fun (w : World) => Lib.run_eql_slice_nil (P := Try.prog) w 22 65 (none) 0 c 0 0 Try.underlying22
    go_enter Try.func66, Try.ntmps66
    go_wp2
    go_ret
    exact ⟨none, 0, rfl, by rw [HP.out]; exact World.ownsRow_nil _ _ _ _, Below.refl _ _⟩
  · have hnil := fun (w : World) => Lib.run_eql_slice_nil (P := Try.prog) w 22 65 (some ad) m c 0 0 Try.underlying22
    go_enter Try.func66, Try.ntmps66
    go_wp2_with (at_builtin; refine Door.enter ?_)
    refine Door.leave (wl_append T0 (base := w.heap.size) (World.ownsRow_lit w #[] 0 (Nat.le_refl _) (by simp [maxLen]) (by simp)) (hs.alloc _) (Nat.zero_add _) (List.nil_append _) h1 (by omega) (by simp) rfl rfl rfl rfl ?_)
    intro A' c' w' h2 h3 h4 h5
    go_wp2
    go_ret
    exact ⟨A', c', rfl, h2, ((Below.refl _ w).alloc (Nat.le_refl _) _).trans h3⟩⟩

set_option maxHeartbeats 1600000 in
theorem clone_deaf : CloneC Try.prog 29 77 2 := ⟨by kernel_rfl, by omega, fun A m c xs w hs hm h1 => by
  have T0 : ElemTy Try.prog 23 77 (.agg #[.int .i64 0, .int .i64 0]) 2 16 := ⟨Try.underlying23, by kernel_rfl, rfl, by omega, by omega⟩
  rcases A with _ | ad
  · have hq0 := hs.2.1 rfl
    subst hq0
    have HP := Lib.hid hs.empty
    have hnil := fun (w : World) => Lib.run_eql_slice_nil (P := Try.prog) w 23 77 (none) 0 c 0 0 Try.underlying23
    go_enter Try.func29, Try.ntmps29
    go_wp2
    go_ret
    exact ⟨none, 0, rfl, by rw [HP.out]; exact World.ownsRow_nil _ _ _ _, Below.refl _ _⟩
  · have hnil := fun (w : World) => Lib.run_eql_slice_nil (P := Try.prog) w 23 77 (some ad) m c 0 0 Try.underlying23
    go_enter Try.func29, Try.ntmps29
    go_wp2_with (at_builtin; refine Door.enter ?_)
    refine Door.leave (wl_append T0 (base := w.heap.size) (World.ownsRow_lit w #[] 0 (Nat.le_refl _) (by simp [maxLen]) (by simp)) (hs.alloc _) (Nat.zero_add _) (List.nil_append _) h1 (by omega) (by simp) rfl rfl rfl rfl ?_)
    intro A' c' w' h2 h3 h4 h5
    go_wp2
    go_ret
    exact ⟨A', c', rfl, h2, ((Below.refl _ w).alloc (Nat.le_refl _) _).trans h3⟩⟩

set_option maxHeartbeats 1600000 in
theorem clone_byte : CloneC Try.prog 30 5 1 := ⟨by kernel_rfl, by omega, fun A m c xs w hs hm h1 => by
  have T0 : ElemTy Try.prog 50 5 (.int .u8 0) 1 1 := ⟨Try.underlying50, by kernel_rfl, rfl, by omega, by omega⟩
  rcases A with _ | ad
  · have hq0 := hs.2.1 rfl
    subst hq0
    have HP := Lib.hid hs.empty
    have hnil := fun (w : World) => Lib.run_eql_slice_nil (P := Try.prog) w 50 5 (none) 0 c 0 0 Try.underlying50
    go_enter Try.func30, Try.ntmps30
    go_wp2
    go_ret
    exact ⟨none, 0, rfl, by rw [HP.out]; exact World.ownsRow_nil _ _ _ _, Below.refl _ _⟩
  · have hnil := fun (w : World) => Lib.run_eql_slice_nil (P := Try.prog) w 50 5 (some ad) m c 0 0 Try.underlying50
    go_enter Try.func30, Try.ntmps30
    go_wp2_with (at_builtin; refine Door.enter ?_)
    refine Door.leave (wl_append T0 (base := w.heap.size) (World.ownsRow_lit w #[] 0 (Nat.le_refl _) (by simp [maxLen]) (by simp)) (hs.alloc _) (Nat.zero_add _) (List.nil_append _) h1 (by omega) (by simp) rfl rfl rfl rfl ?_)
    intro A' c' w' h2 h3 h4 h5
    go_wp2
    go_ret
    exact ⟨A', c', rfl, h2, ((Below.refl _ w).alloc (Nat.le_refl _) _).trans h3⟩⟩
end Go.Proofs.Ytmhmldpccccjbaa

namespace Go.Proofs.Ytmhmldpccccjbaa
open Go.RowKit
set_option linter.unusedVariables false
set_option linter.unusedSimpArgs false

/-- A slot: its number, from whom, to whom, the bytes. -/
structure Sl where
  a : Int
  f : Int
  t : Int
  b : List Int
def slC (c : Bool) (s : Sl) : List TV := [.v (.int .i64 s.a), .v (.int .i64 s.f), .v (.int .i64 s.t), .sl c (s.b.map by1)]
def dfC (d : Int × Int) : List TV := [.v (.int .i64 d.1), .v (.int .i64 d.2)]
theorem nl_by1 (l : List Int) : NlLL (l.map by1) := .map fun x _ => .cons (nlv _) .nil
theorem nl_sl (c : Bool) (l : List Sl) : NlLL (l.map (slC c)) := .map fun s _ => .cons (nlv _) (.cons (nlv _) (.cons (nlv _) (.cons (nl_by1 _).sl .nil)))
theorem nl_df (l : List (Int × Int)) : NlLL (l.map dfC) := .map fun d _ => .cons (nlv _) (.cons (nlv _) .nil)
theorem untag_by1 (l : List Int) : untagLL (l.map by1) = l.map by1 := by rw [untagLL_map]; rfl
theorem untag_sl (c : Bool) (l : List Sl) : untagLL (l.map (slC c)) = l.map (slC false) := by
  rw [untagLL_map]
  exact List.map_congr_left fun s _ => by simp only [slC, untagL, untag, untag_by1]
theorem untag_df (l : List (Int × Int)) : untagLL (l.map dfC) = l.map dfC := by rw [untagLL_map]; rfl
theorem pu_by1 (l : List Int) : PuLL (l.map by1) := PuLL_map _ _ fun x _ => by simp [by1, PuL, Pu]
theorem pu_sl (c : Bool) (l : List Sl) : PuLL (l.map (slC c)) := PuLL_map _ _ fun s _ => by simp [slC, PuL, Pu, pu_by1]
theorem pu_df (l : List (Int × Int)) : PuLL (l.map dfC) := PuLL_map _ _ fun d _ => by simp [dfC, PuL, Pu]
theorem fr_by1 (l : List Int) : FrLL (l.map by1) := FrLL_map _ _ fun x _ => by simp [by1, FrL, Fr]
theorem fr_sl (l : List Sl) : FrLL (l.map (slC true)) := FrLL_map _ _ fun s _ => by simp [slC, FrL, Fr, fr_by1]
theorem fr_df (l : List (Int × Int)) : FrLL (l.map dfC) := FrLL_map _ _ fun d _ => by simp [dfC, FrL, Fr]
theorem sl_len (c : Bool) (l : List Sl) : ∀ x ∈ l.map (slC c), x.length = 4 := fun x hx => by obtain ⟨s, _, rfl⟩ := List.mem_map.1 hx; rfl
theorem sl_one (c : Bool) (l : List Sl) : ∀ x ∈ l.map (slC c), x.all TV.one = true := fun x hx => by obtain ⟨s, _, rfl⟩ := List.mem_map.1 hx; rfl
theorem df_len (l : List (Int × Int)) : ∀ x ∈ l.map dfC, x.length = 2 := fun x hx => by obtain ⟨s, _, rfl⟩ := List.mem_map.1 hx; rfl
theorem df_one (l : List (Int × Int)) : ∀ x ∈ l.map dfC, x.all TV.one = true := fun x hx => by obtain ⟨s, _, rfl⟩ := List.mem_map.1 hx; rfl
theorem by_len (l : List Int) : ∀ x ∈ l.map by1, x.length = 1 := fun x hx => by obtain ⟨s, _, rfl⟩ := List.mem_map.1 hx; rfl
theorem by_one (l : List Int) : ∀ x ∈ l.map by1, x.all TV.one = true := fun x hx => by obtain ⟨s, _, rfl⟩ := List.mem_map.1 hx; rfl
/-- A net. -/
structure NetA where
  s : List Sl
  l : Int
  d : List (Int × Int)
def netT (b b' c : Bool) (n : NetA) : TV := .agg [.sl b (n.s.map (slC b')), .v (.int .i64 n.l), .sl c (n.d.map dfC)]
/-- What stands in numbers. -/
def I64 (x : Int) : Prop := -9223372036854775808 ≤ x ∧ x < 9223372036854775808
structure Sl.Ok (s : Sl) : Prop where
  a : I64 s.a
  f : I64 s.f
  t : I64 s.t
  n : s.b.length ≤ 100000
structure NetA.Ok (n : NetA) : Prop where
  s : ∀ x ∈ n.s, x.Ok
  sn : n.s.length ≤ 1000
  l : I64 n.l
  d : ∀ x ∈ n.d, I64 x.1 ∧ I64 x.2
  dn : n.d.length ≤ 1000
def nodeB (n : Int) : Bool := decide (1 ≤ n) && decide (n ≤ 8)
def pkB (f t : Int) (n : Nat) : Bool := nodeB f && nodeB t && !decide (f = t) && decide (n ≤ 70000)
def cmpN (a b : Int) : Int := if a < b then -1 else if b < a then 1 else 0
def ordN (a b : Int × Int) : Int := if cmpN a.1 b.1 = 0 then cmpN a.2 b.2 else cmpN a.1 b.1
end Go.Proofs.Ytmhmldpccccjbaa
