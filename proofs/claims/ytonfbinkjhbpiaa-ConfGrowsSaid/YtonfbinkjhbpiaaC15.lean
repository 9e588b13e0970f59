/- The walks of the conf layer: members' bytes by the reference. No condition. -/
import Derived.Test.YtonfbinkjhbpiaaC14
namespace Go.Proofs.Ytonfbinkjhbpiaa
open Go.RowKit Go.Shelf
set_option linter.unusedVariables false

theorem ty_bytes : ElemTy Try.prog 38 5 (.int .u8 0) 1 1 := ⟨Try.underlying38, by kernel_rfl, rfl, by omega, by omega⟩

theorem fill_set {l : List Int} {n k : Nat} {z y : Int} (hl : l.length = n) (hy : l[k]? = some y) :
    ((z :: (l.take k ++ List.replicate (n - k) 0)).set (1 + k) y) = z :: (l.take (k + 1) ++ List.replicate (n - (k + 1)) 0) := by
  have hk : k < l.length := (List.getElem?_eq_some_iff.1 hy).1
  have hlen : (l.take k).length = k := by rw [List.length_take]; omega
  rw [Nat.add_comm 1 k, List.set_cons_succ, List.set_append_right _ _ (by omega), hlen, Nat.sub_self, take_snoc hy]
  have : n - k = (n - (k + 1)) + 1 := by omega
  rw [this, List.replicate_succ, List.set_cons_zero, List.append_assoc]
  rfl

set_option maxHeartbeats 800000 in
theorem rbytes_any {e1 : Option TypeId} (A : Option Addr) (n c : Nat) (l : List Int) (w : World) (hs : Sees w e1 1 A n (ib .i64 l)) (hn : n ≤ 30) (hr : rightB l = true) :
    Calls Try.prog 24 #[cf A n c] w fun e w' => ∃ A' c', e = .returned (.slice A' (n + 1) c') ∧ w'.ownsRow w.heap.size 5 1 (.slice A' (n + 1) c') (n + 1) (ib .u8 ((n : Int) :: l)) ∧ Below w.heap.size w w' := by
  have HL := Lib.hid hs.len
  have hs1 := hs.alloc (.cells #[.slice A n c] 27)
  have hB := Lib.hid ((Below.refl _ w).alloc (Nat.le_refl _) (.cells #[.slice A n c] 27))
  have HK := Lib.hid (Blk.new w 27 #[.slice A n c])
  have hz : (w.alloc (.cells #[.slice A n c] 27)).heap.size = w.heap.size + 1 := by simp
  have HZ := Lib.hid hz
  have HR := Lib.hid hr
  have hwn : IntKind.u8.wrap (n : Int) = (n : Int) := by rw [IntKind.wrap_u8]; omega
  clear hr hz
  go_enter Try.func24, Try.ntmps24
  go_wp2_with (at_make; refine Door.enter ?_)
  refine Door.leave (wl_make ty_bytes (base := w.heap.size + 1) (n := n + 1) (c := n + 1) (by omega) (by omega) (by omega) (by omega) (Nat.le_of_eq HZ.out.symm) rfl rfl rfl rfl rfl ?_)
  intro A1 w1 hown1 hb1 _
  have k1 := HK.out.below hb1
  have c1 := k1.cell 0
  simp at c1
  obtain ⟨g, u, rfl, hbg, hlt, _, hcell, hfz⟩ := own_at hown1 (k := 0) (by omega)
  have ss := hs1.below hb1
  go_wp2
  have HBB := Lib.hid (hB.out.trans (hb1.mono hB.out.size))
  have hownA := own_put hown1 0 (.int .u8 (n : Int))
  have hb2 : Below (w.heap.size + 1) w1 (w1.setCell ⟨g, 0, none⟩ (.int .u8 (n : Int))) := (Below.refl _ w1).setCell hbg _
  have hown2 : (w1.setCell ⟨g, 0, none⟩ (.int .u8 (n : Int))).ownsRow (w.heap.size + 1) 5 1 (.slice (some ⟨g, 0, none⟩) (n + 1) (n + 1)) (n + 1) (ib .u8 ((n : Int) :: (l.take 0 ++ List.replicate (n - 0) 0))) := by
    rw [List.replicate_succ, List.set_cons_zero] at hownA
    simpa [ib] using hownA
  clear hown1 hownA hcell hfz hs1 hB HK k1 c1 ss hb1
  obtain ⟨w2, hw2⟩ : ∃ w2, w1.setCell ⟨g, 0, none⟩ (.int .u8 (n : Int)) = w2 := ⟨_, rfl⟩
  rw [hw2] at hown2 hb2 ⊢
  clear hw2
  go_loopw [20] (fun p wr => ∃ k : Nat, k ≤ n ∧ p = .int .i64 k ∧ wr.ownsRow (w.heap.size + 1) 5 1 (.slice (some ⟨g, 0, none⟩) (n + 1) (n + 1)) (n + 1) (ib .u8 ((n : Int) :: (l.take k ++ List.replicate (n - k) 0))) ∧ Below (w.heap.size + 1) w1 wr)
    (fun p _ => n - (intOf p).toNat)
  case atStart => exact ⟨0, by omega, rfl, hown2, hb2⟩
  case round =>
    obtain ⟨k, hk, rfl, hown, hbr⟩ := hrel
    by_cases hlt2 : k < n
    · obtain ⟨ad, v, rfl, hv, hc⟩ := (hs.below (HBB.out.trans (hbr.mono (Nat.le_succ _)))).at_ hlt2
      obtain ⟨y, hy, rfl⟩ := ib_get hv
      have hm := right_mem HR.out (List.mem_of_getElem? hy)
      have hwy : IntKind.u8.wrap y = y := by rw [IntKind.wrap_u8]; omega
      have HS := Lib.hid (fill_set (z := (n : Int)) HL.out hy)
      obtain ⟨g', u2, hg', _, _, _, hcell, hfz⟩ := own_at hown (k := 1 + k) (by omega)
      injection hg' with hg'
      injection hg' with hg'
      subst hg'
      have hkI : (1 + (k : Int)) < ((n + 1 : Nat) : Int) := by omega
      clear hm hy hv
      go_wp2
      go_roundw
      case rel => exact ⟨k + 1, by omega, by go_num, by have := own_put hown (1 + k) (.int .u8 y); rw [ib_set, HS.out] at this; exact this, hbr.setCell hbg _⟩
      case measure => simp [intOf]; omega
    · go_wp2
      go_ret
      obtain rfl : k = n := by omega
      rw [take_all (by have := HL.out; omega), Nat.sub_self, List.replicate_zero, List.append_nil] at hown
      exact ⟨_, _, rfl, own_mono hown (Nat.le_succ _), HBB.out.trans (hbr.mono (Nat.le_succ _))⟩
end Go.Proofs.Ytonfbinkjhbpiaa
