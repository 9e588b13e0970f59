/- The spots' closure; that a range's own objects keep a log. No condition. -/
import Derived.Test.YtpckkajodpiiaaaE12
namespace Go.Proofs.Ytpckkajodpiiaaa
open Go.RowKit Go.Shelf
set_option linter.unusedVariables false
set_option linter.unusedSimpArgs false

theorem spots_any (i t : Int) (A : Option Addr) (N c : Nat) (w : World) :
    Calls Try.prog 63 #[logV i t A N c] w fun e w' => e = .returned (.func (.func 71) #[] #[.pointer (some ⟨w.heap.size, 0, none⟩)]) ∧ w' = w.alloc (.cells #[.int .u64 i, .int .u64 t, .slice A N c] 79) := by
  unfold logV
  go_enter Try.func63, Try.ntmps63
  go_wp2
  go_ret
  exact ⟨rfl, rfl⟩

section
variable {W : World} {l : Nat} {o o' : Obj}
theorem Sees.putObj {e : Option TypeId} {s n : Nat} {A : Option Addr} {xs : List Value} (h : Sees W e s A n xs) (ho : W.heap[l]? = some o) (hc : o.isCells = false) : Sees (W.putObj l o') e s A n xs :=
  h.keep fun k hk hh => by
    obtain ⟨ad, ha, rfl, h0⟩ := hh
    obtain ⟨cur, t, fz, hc', _⟩ := (h.2.2 ad ha).1 h0
    refine (grownBy_putObj' W l o').block _ hk (fun e => ?_)
    injection e with e
    subst e
    rw [ho] at hc'
    cases hc'
    simp [Obj.isCells] at hc
theorem SeesE.putObj {e : Option TypeId} {n : Nat} {A : Option Addr} {ps : List EP} (h : SeesE W e A n ps) (ho : W.heap[l]? = some o) (hc : o.isCells = false) : SeesE (W.putObj l o') e A n ps :=
  ⟨h.1.putObj ho hc, fun p hp => ⟨(h.2 p hp).sees.putObj ho hc, (h.2 p hp).nc, (h.2 p hp).small, (h.2 p hp).t0, (h.2 p hp).t1⟩⟩
theorem Blk.putObj {g : Nat} {t : TypeId} {cs : Array Value} (h : Blk W g t cs) (ho : W.heap[l]? = some o) (hc : o.isCells = false) : Blk (W.putObj l o') g t cs := by
  refine ((grownBy_putObj' W l o').block g h.lt (fun e => ?_)).trans h
  injection e with e
  subst e
  unfold Blk at h
  rw [ho] at h
  cases h
  simp [Obj.isCells] at hc
end
theorem keepL_t {e2 : Option TypeId} {Bn : Nat} {i t : Int} {A : Option Addr} {N c : Nat} {ps : List EP} {X Y Z : World} (h : KeepL e2 Bn i t A N c ps X Y) (k : KeepL e2 Bn i t A N c ps Y Z) : KeepL e2 Bn i t A N c ps X Z := fun x => k (h x)
theorem keepL_b {e2 : Option TypeId} {Bn : Nat} {i t : Int} {A : Option Addr} {N c : Nat} {ps : List EP} {m : Nat} : ∀ (W : World) (l : Nat) (o o' : Obj), m ≤ l → W.heap[l]? = some o → o.isCells = false → o.isWalk = false → KeepL e2 Bn i t A N c ps W (W.putObj l o') :=
  fun W l o o' _ ho hc _ hx => ⟨hx.1.putObj ho hc, hx.2.putObj ho hc⟩
end Go.Proofs.Ytpckkajodpiiaaa
