/- States without what was written over: slots are told once. No condition. -/
import Derived.Test.YtpgfhkbnngjegaaGreatDoorU6
import Derived.Test.YtpgfhkbnngjegaaGreatDoorShelf
import Derived.Test.YtpgfhkbnngjegaaGreatDoorT3
import Derived.Test.YtpgfhkbnngjegaaGreatDoorProg

/- Functions of the library on texts, as trees. No condition. -/
namespace Go.Proofs.YtpgfhkbnngjegaaGreatDoor
open Go.RowKit
set_option linter.unusedVariables false
set_option linter.unusedSimpArgs false

def st1 (s : ByteArray) : List TV := [.v (.string s)]
theorem nl_st (l : List ByteArray) : NlLL (l.map st1) := .map fun x _ => .cons (nlv _) .nil
theorem untag_st (l : List ByteArray) : untagLL (l.map st1) = l.map st1 := by rw [untagLL_map]; rfl
theorem pu_st (l : List ByteArray) : PuLL (l.map st1) := PuLL_map _ _ fun x _ => by simp [st1, PuL, Pu]
theorem fr_st (l : List ByteArray) : FrLL (l.map st1) := FrLL_map _ _ fun x _ => by simp [st1, FrL, Fr]
theorem st_len (l : List ByteArray) : ∀ x ∈ l.map st1, x.length = 1 := fun x hx => by obtain ⟨s, _, rfl⟩ := List.mem_map.1 hx; rfl
theorem st_one (l : List ByteArray) : ∀ x ∈ l.map st1, x.all TV.one = true := fun x hx => by obtain ⟨s, _, rfl⟩ := List.mem_map.1 hx; rfl
theorem res_v {C : Cx} {w' : World} {u : Value} {hp : Nl (.v u)} (hb : Below C.w.heap.size C.w w') : ∃ u' ov, Ending.returned u = .returned u' ∧ Below C.w.heap.size C.w w' ∧ (∀ g, blkOf ov = some g → C.w.heap.size ≤ g ∧ g < w'.heap.size) ∧ Dn (rsCx C.w.heap.size w' ov) (XV.p (.v u) hp).den u' :=
  ⟨u, .nilFunc, rfl, hb, fun g hg => (by cases hg), by simp [XV.den, Dn]⟩
theorem upper_X (s : ByteArray) (hs : s.size ≤ 140737488355328) (ha : ∀ b ∈ bs s, b.toNat < 128) : XMeets Tryz.prog 164 [.v (.string s)] (.p (.v (.string ⟨(Lib.toUpperA (bs s)).toArray⟩)) (nlv _)) := ⟨by kernel_rfl, fun C vals _ hd => by
  simp only [DnL, Dn] at hd
  obtain ⟨u, us, rfl, rfl, rfl⟩ := hd
  refine (Tryz.strings_ToUpper_ascii s C.w hs (fun j b hb => ha b (List.mem_of_getElem? hb))).mono ?_
  rintro e w' ⟨rfl, hb⟩
  exact res_v hb⟩
set_option maxHeartbeats 1600000 in
theorem clone_str : CloneC Tryz.prog 193 9 1 := ⟨by kernel_rfl, by omega, fun A m c xs w hs hm h1 => by
  have T0 : ElemTy Tryz.prog 26 9 (.string ⟨#[]⟩) 1 16 := ⟨Tryz.underlying26, by kernel_rfl, rfl, by omega, by omega⟩
  rcases A with _ | ad
  · have hq0 := hs.2.1 rfl
    subst hq0
    have HP := Lib.hid hs.empty
    have hnil := fun (w : World) => Lib.run_eql_slice_nil (P := Tryz.prog) w 26 9 (none) 0 c 0 0 Tryz.underlying26
    go_enter Tryz.func193, Tryz.ntmps193
    go_wp2
    go_ret
    exact ⟨none, 0, rfl, by rw [HP.out]; exact World.ownsRow_nil _ _ _ _, Below.refl _ _⟩
  · have hnil := fun (w : World) => Lib.run_eql_slice_nil (P := Tryz.prog) w 26 9 (some ad) m c 0 0 Tryz.underlying26
    go_enter Tryz.func193, Tryz.ntmps193
    go_wp2_with (at_builtin; refine Door.enter ?_)
    refine Door.leave (wl_append T0 (base := w.heap.size) (World.ownsRow_lit w #[] 0 (Nat.le_refl _) (by simp [maxLen]) (by simp)) (hs.alloc _) (Nat.zero_add _) (List.nil_append _) h1 (by omega) (by simp) rfl rfl rfl rfl ?_)
    intro A' c' w' h2 h3 h4 h5
    go_wp2
    go_ret
    exact ⟨A', c', rfl, h2, ((Below.refl _ w).alloc (Nat.le_refl _) _).trans h3⟩⟩
/-- The words that are kept. -/
def keysL : List ByteArray := [⟨#[67, 82, 69, 65, 84, 69]⟩, ⟨#[84, 65, 66, 76, 69]⟩, ⟨#[68, 82, 79, 80]⟩, ⟨#[73, 78, 83, 69, 82, 84]⟩, ⟨#[73, 78, 84, 79]⟩, ⟨#[86, 65, 76, 85, 69, 83]⟩, ⟨#[85, 80, 68, 65, 84, 69]⟩, ⟨#[83, 69, 84]⟩, ⟨#[68, 69, 76, 69, 84, 69]⟩, ⟨#[70, 82, 79, 77]⟩, ⟨#[83, 69, 76, 69, 67, 84]⟩, ⟨#[87, 72, 69, 82, 69]⟩, ⟨#[73, 78, 78, 69, 82]⟩, ⟨#[74, 79, 73, 78]⟩, ⟨#[79, 78]⟩, ⟨#[79, 82, 68, 69, 82]⟩, ⟨#[66, 89]⟩, ⟨#[65, 83, 67]⟩, ⟨#[68, 69, 83, 67]⟩, ⟨#[76, 73, 77, 73, 84]⟩, ⟨#[71, 82, 79, 85, 80]⟩, ⟨#[67, 79, 85, 78, 84]⟩, ⟨#[83, 85, 77]⟩, ⟨#[65, 78, 68]⟩, ⟨#[79, 82]⟩, ⟨#[78, 79, 84]⟩, ⟨#[78, 85, 76, 76]⟩, ⟨#[84, 82, 85, 69]⟩, ⟨#[70, 65, 76, 83, 69]⟩, ⟨#[73, 83]⟩, ⟨#[73, 78, 84]⟩, ⟨#[66, 79, 79, 76]⟩, ⟨#[84, 69, 88, 84]⟩, ⟨#[80, 82, 73, 77, 65, 82, 89]⟩, ⟨#[75, 69, 89]⟩]
end Go.Proofs.YtpgfhkbnngjegaaGreatDoor

namespace Go.Proofs.YtpgfhkbnngjegaaGreatDoor
open Go.RowKit
set_option linter.unusedVariables false
theorem tb_at {α : Type} {f : Nat → Option α} {xs : List (Option α)} {k n : Nat} (h : (List.range n).map (fun t => f (t + k)) = xs) {t : Nat} {x : α} (hx : xs[t]? = some (some x)) : f (t + k) = some x := by
  rw [← h, List.getElem?_map] at hx
  rcases Nat.lt_or_ge t n with h1 | h1
  · simp [h1] at hx; exact hx
  · simp [h1] at hx
def told : List Nat := [1, 2, 3, 4, 5, 6, 7, 8, 9, 10, 11, 12, 13, 14, 15, 16, 17, 18, 19, 20, 21, 22, 23, 24, 25, 26, 27, 28, 29, 30, 31, 33, 34, 35, 36, 37, 38, 39, 40, 41, 42, 43, 44, 45, 46, 47, 48, 49, 50, 51, 52, 53, 54, 55, 56, 57, 58, 59, 60, 61, 62, 63, 64, 65, 66, 67, 69, 70, 71, 72, 73, 75, 76, 77, 79, 80, 81, 82, 83, 84, 86, 87, 88, 89, 90, 91, 92, 93, 94, 95, 96, 97, 98, 99, 100, 101, 102, 103, 104, 106, 107, 108, 109, 110, 111, 112, 114, 115, 116, 117, 118, 119, 120, 121, 122, 123, 124, 125, 126, 127, 128, 129, 130, 131, 132, 133, 134, 135, 136, 137, 138, 139, 140, 141, 142, 143, 144, 145, 146, 147, 148, 149, 150, 151, 152, 153, 154, 155, 156, 157, 158, 159, 160, 161, 162, 163, 165, 166, 167, 168, 169, 170, 171, 173, 174, 175, 176, 177, 179, 180, 181, 182, 183, 184, 185, 187, 188, 189, 190, 191, 192, 193, 194, 195, 196, 198, 199, 200, 201, 202, 203, 204, 205, 207, 208, 209, 210, 211, 212, 213, 214, 215, 216, 217, 218, 219, 220, 222, 223, 224, 225, 226, 228, 229, 230, 231, 233, 234, 236, 237, 238, 239, 240, 241, 242, 243, 244, 245, 246, 247, 248, 249, 250, 251, 252, 253, 254, 255, 256, 257]
def zrowOf (P : Program) (t : Nat) : Option Value := if told.contains t then (P.info? t).bind (·.zero) else none
def tb0 : List (Option TI) := [some ⟨0, false, 1, [], 0, 0, 0, none⟩, some ⟨0, false, 1, [], 0, 0, 8, none⟩, some ⟨5, false, 1, [], 0, 0, 8, some .i64⟩, some ⟨5, false, 1, [], 0, 0, 8, some .i64⟩, some ⟨6, false, 1, [], 0, 0, 1, none⟩, some ⟨5, false, 1, [], 0, 0, 1, some .u8⟩, some ⟨5, false, 1, [], 0, 0, 1, some .u8⟩, some ⟨1, true, 4, [(0, 2), (1, 3), (2, 4), (3, 6)], 0, 0, 24, none⟩, some ⟨1, true, 4, [(0, 2), (1, 3), (2, 4), (3, 6)], 0, 0, 24, none⟩, some ⟨4, false, 1, [], 0, 0, 16, none⟩, some ⟨4, false, 1, [], 0, 0, 16, none⟩, some ⟨4, false, 1, [], 0, 0, 16, none⟩, some ⟨5, false, 1, [], 0, 0, 8, some .u64⟩, some ⟨1, true, 2, [(0, 9), (1, 12)], 0, 0, 24, none⟩, some ⟨1, true, 2, [(0, 9), (1, 12)], 0, 0, 24, none⟩, some ⟨7, false, 1, [], 247, 0, 8, none⟩, some ⟨7, false, 1, [], 250, 0, 8, none⟩, some ⟨7, false, 1, [], 257, 0, 8, none⟩, some ⟨1, true, 1, [(0, 17)], 0, 0, 8, none⟩, some ⟨1, true, 1, [(0, 17)], 0, 0, 8, none⟩, some ⟨0, false, 1, [], 0, 0, 16, none⟩, some ⟨5, false, 1, [], 0, 0, 4, some .i32⟩, some ⟨3, false, 1, [], 94, 0, 24, none⟩, some ⟨3, false, 1, [], 38, 0, 24, none⟩, some ⟨1, true, 3, [(0, 9), (1, 22), (2, 23)], 0, 0, 64, none⟩, some ⟨1, true, 3, [(0, 9), (1, 22), (2, 23)], 0, 0, 64, none⟩, some ⟨3, false, 1, [], 9, 0, 24, none⟩, some ⟨0, false, 1, [], 0, 0, 8, none⟩, some ⟨0, false, 1, [], 0, 0, 8, none⟩, some ⟨0, false, 1, [], 0, 0, 8, none⟩, some ⟨5, false, 1, [], 0, 0, 8, some .i64⟩, some ⟨0, false, 1, [], 0, 0, 8, none⟩, some ⟨0, false, 1, [], 0, 0, 0, none⟩, some ⟨0, false, 1, [], 0, 0, 8, none⟩, some ⟨0, false, 1, [], 0, 0, 8, none⟩, some ⟨0, false, 1, [], 0, 0, 8, none⟩, some ⟨0, false, 1, [], 0, 0, 8, none⟩, some ⟨0, false, 1, [], 0, 0, 8, none⟩, some ⟨3, false, 1, [], 42, 0, 24, none⟩, some ⟨0, false, 1, [], 0, 0, 8, none⟩]
theorem tb0_ok : (List.range 40).map (fun t => tiOf Tryz.prog (t + 0)) = tb0 := by kernel_rfl
def tb1 : List (Option TI) := [some ⟨0, false, 1, [], 0, 0, 8, none⟩, some ⟨1, true, 3, [(0, 3), (1, 2), (2, 9)], 0, 0, 32, none⟩, some ⟨1, true, 3, [(0, 3), (1, 2), (2, 9)], 0, 0, 32, none⟩, some ⟨0, false, 1, [], 0, 0, 8, none⟩, some ⟨0, false, 1, [], 0, 0, 8, none⟩, some ⟨0, false, 1, [], 0, 0, 8, none⟩, some ⟨0, false, 1, [], 0, 0, 8, none⟩, some ⟨3, false, 1, [], 50, 0, 24, none⟩, some ⟨3, false, 1, [], 25, 0, 24, none⟩, some ⟨1, true, 1, [(0, 48)], 0, 0, 24, none⟩, some ⟨1, true, 1, [(0, 48)], 0, 0, 24, none⟩, some ⟨0, false, 1, [], 0, 0, 8, none⟩, some ⟨0, false, 1, [], 0, 0, 8, none⟩, some ⟨0, false, 1, [], 0, 0, 8, none⟩, some ⟨0, false, 1, [], 0, 0, 8, none⟩, some ⟨0, false, 1, [], 0, 0, 8, none⟩, some ⟨0, false, 1, [], 0, 0, 8, none⟩, some ⟨0, false, 1, [], 0, 0, 8, none⟩, some ⟨0, false, 1, [], 0, 0, 8, none⟩, some ⟨3, false, 1, [], 62, 0, 24, none⟩, some ⟨0, false, 1, [], 0, 0, 8, none⟩, some ⟨1, true, 2, [(0, 9), (1, 9)], 0, 0, 32, none⟩, some ⟨1, true, 2, [(0, 9), (1, 9)], 0, 0, 32, none⟩, some ⟨0, false, 1, [], 0, 0, 8, none⟩, some ⟨3, false, 1, [], 66, 0, 24, none⟩, some ⟨1, true, 7, [(0, 3), (1, 9), (2, 25), (5, 23), (6, 38)], 0, 0, 136, none⟩, some ⟨1, true, 7, [(0, 3), (1, 9), (2, 25), (5, 23), (6, 38)], 0, 0, 136, none⟩, some ⟨0, false, 1, [], 0, 0, 8, none⟩, some ⟨0, false, 1, [], 0, 0, 0, none⟩, some ⟨0, false, 1, [], 0, 0, 8, none⟩, some ⟨0, false, 1, [], 0, 0, 8, none⟩, some ⟨0, false, 1, [], 0, 0, 8, none⟩, some ⟨0, false, 1, [], 0, 0, 8, none⟩, some ⟨0, false, 1, [], 0, 0, 8, none⟩, some ⟨0, false, 1, [], 0, 0, 0, none⟩, some ⟨0, false, 1, [], 0, 0, 8, none⟩, some ⟨0, false, 1, [], 0, 0, 8, none⟩, some ⟨0, false, 1, [], 0, 0, 8, none⟩, some ⟨0, false, 1, [], 0, 0, 0, none⟩, some ⟨0, false, 1, [], 0, 0, 8, none⟩]
theorem tb1_ok : (List.range 40).map (fun t => tiOf Tryz.prog (t + 40)) = tb1 := by kernel_rfl
def tb2 : List (Option TI) := [some ⟨0, false, 1, [], 0, 0, 8, none⟩, some ⟨0, false, 1, [], 0, 0, 8, none⟩, some ⟨0, false, 1, [], 0, 0, 8, none⟩, some ⟨3, false, 1, [], 84, 0, 24, none⟩, some ⟨3, false, 1, [], 5, 0, 24, none⟩, some ⟨0, false, 1, [], 0, 0, 0, none⟩, some ⟨0, false, 1, [], 0, 0, 8, none⟩, some ⟨0, false, 1, [], 0, 0, 8, none⟩, some ⟨0, false, 1, [], 0, 0, 8, none⟩, some ⟨0, false, 1, [], 0, 0, 8, none⟩, some ⟨0, false, 1, [], 0, 0, 8, none⟩, some ⟨5, false, 1, [], 0, 0, 8, some .u64⟩, some ⟨0, false, 1, [], 0, 0, 8, none⟩, some ⟨1, true, 4, [(0, 9), (1, 3), (2, 4), (3, 4)], 0, 0, 32, none⟩, some ⟨1, true, 4, [(0, 9), (1, 3), (2, 4), (3, 4)], 0, 0, 32, none⟩, some ⟨0, false, 1, [], 0, 0, 8, none⟩, some ⟨0, false, 1, [], 0, 0, 8, none⟩, some ⟨0, false, 1, [], 0, 0, 8, none⟩, some ⟨0, false, 1, [], 0, 0, 8, none⟩, some ⟨0, false, 1, [], 0, 0, 8, none⟩, some ⟨0, false, 1, [], 0, 0, 8, none⟩, some ⟨0, false, 1, [], 0, 0, 8, none⟩, some ⟨0, false, 1, [], 0, 0, 8, none⟩, some ⟨0, false, 1, [], 0, 0, 8, none⟩, some ⟨0, false, 1, [], 0, 0, 8, none⟩, some ⟨0, false, 1, [], 0, 0, 0, none⟩, some ⟨0, false, 1, [], 0, 0, 8, none⟩, some ⟨0, false, 1, [], 0, 0, 8, none⟩, some ⟨0, false, 1, [], 0, 0, 8, none⟩, some ⟨0, false, 1, [], 0, 0, 8, none⟩, some ⟨7, false, 1, [], 25, 0, 8, none⟩, some ⟨0, false, 1, [], 0, 0, 8, none⟩, some ⟨0, false, 1, [], 0, 0, 8, none⟩, some ⟨0, false, 1, [], 0, 0, 0, none⟩, some ⟨0, false, 1, [], 0, 0, 8, none⟩, some ⟨0, false, 1, [], 0, 0, 8, none⟩, some ⟨0, false, 1, [], 0, 0, 8, none⟩, some ⟨0, false, 1, [], 0, 0, 8, none⟩, some ⟨0, false, 1, [], 0, 0, 8, none⟩, some ⟨0, false, 1, [], 0, 0, 8, none⟩]
theorem tb2_ok : (List.range 40).map (fun t => tiOf Tryz.prog (t + 80)) = tb2 := by kernel_rfl
def tb3 : List (Option TI) := [some ⟨7, false, 1, [], 124, 0, 8, none⟩, some ⟨7, false, 1, [], 160, 0, 8, none⟩, some ⟨0, false, 1, [], 0, 0, 8, none⟩, some ⟨1, true, 3, [(0, 121), (1, 4), (2, 4)], 0, 0, 16, none⟩, some ⟨1, true, 3, [(0, 121), (1, 4), (2, 4)], 0, 0, 16, none⟩, some ⟨0, false, 1, [], 0, 0, 8, none⟩, some ⟨0, false, 1, [], 0, 0, 8, none⟩, some ⟨0, false, 1, [], 0, 0, 8, none⟩, some ⟨7, false, 1, [], 130, 0, 8, none⟩, some ⟨1, true, 3, [(0, 84), (1, 4), (2, 4)], 0, 0, 32, none⟩, some ⟨1, true, 3, [(0, 84), (1, 4), (2, 4)], 0, 0, 32, none⟩, some ⟨0, false, 1, [], 0, 0, 8, none⟩, some ⟨0, false, 1, [], 0, 0, 8, none⟩, some ⟨0, false, 1, [], 0, 0, 8, none⟩, some ⟨0, false, 1, [], 0, 0, 8, none⟩, some ⟨0, false, 1, [], 0, 0, 8, none⟩, some ⟨0, false, 1, [], 0, 0, 8, none⟩, some ⟨0, false, 1, [], 0, 0, 8, none⟩, some ⟨0, false, 1, [], 0, 0, 8, none⟩, some ⟨5, false, 1, [], 0, 0, 8, some .u64⟩, some ⟨0, false, 1, [], 0, 0, 8, none⟩, some ⟨0, false, 1, [], 0, 0, 8, none⟩, some ⟨0, false, 1, [], 0, 0, 8, none⟩, some ⟨0, false, 1, [], 0, 0, 8, none⟩, some ⟨0, false, 1, [], 0, 0, 8, none⟩, some ⟨0, false, 1, [], 0, 0, 8, none⟩, some ⟨0, false, 1, [], 0, 0, 8, none⟩, some ⟨0, false, 1, [], 0, 0, 8, none⟩, some ⟨0, false, 1, [], 0, 0, 8, none⟩, some ⟨0, false, 1, [], 0, 0, 8, none⟩, some ⟨0, false, 1, [], 0, 0, 8, none⟩, some ⟨0, false, 1, [], 0, 0, 8, none⟩, some ⟨0, false, 1, [], 0, 0, 8, none⟩, some ⟨0, false, 1, [], 0, 0, 8, none⟩, some ⟨0, false, 1, [], 0, 0, 8, none⟩, some ⟨0, false, 1, [], 0, 0, 8, none⟩, some ⟨0, false, 1, [], 0, 0, 8, none⟩, some ⟨1, true, 2, [(0, 84), (1, 3)], 0, 0, 32, none⟩, some ⟨1, true, 2, [(0, 84), (1, 3)], 0, 0, 32, none⟩, some ⟨1, true, 3, [(0, 158), (2, 30)], 0, 0, 40, none⟩]
theorem tb3_ok : (List.range 40).map (fun t => tiOf Tryz.prog (t + 120)) = tb3 := by kernel_rfl
def tb4 : List (Option TI) := [some ⟨1, true, 3, [(0, 158), (2, 30)], 0, 0, 40, none⟩, some ⟨0, false, 1, [], 0, 0, 8, none⟩, some ⟨0, false, 1, [], 0, 0, 8, none⟩, some ⟨0, false, 1, [], 0, 0, 8, none⟩, some ⟨0, false, 1, [], 0, 0, 0, none⟩, some ⟨0, false, 1, [], 0, 0, 8, none⟩, some ⟨0, false, 1, [], 0, 0, 8, none⟩, some ⟨0, false, 1, [], 0, 0, 8, none⟩, some ⟨3, false, 1, [], 3, 0, 24, none⟩, some ⟨0, false, 1, [], 0, 0, 8, none⟩, some ⟨0, false, 1, [], 0, 0, 8, none⟩, some ⟨0, false, 1, [], 0, 0, 8, none⟩, some ⟨0, false, 1, [], 0, 0, 0, none⟩, some ⟨0, false, 1, [], 0, 0, 8, none⟩, some ⟨0, false, 1, [], 0, 0, 8, none⟩, some ⟨0, false, 1, [], 0, 0, 8, none⟩, some ⟨0, false, 1, [], 0, 0, 8, none⟩, some ⟨0, false, 1, [], 0, 0, 8, none⟩, some ⟨0, false, 1, [], 0, 0, 0, none⟩, some ⟨0, false, 1, [], 0, 0, 8, none⟩, some ⟨0, false, 1, [], 0, 0, 8, none⟩, some ⟨0, false, 1, [], 0, 0, 8, none⟩, some ⟨0, false, 1, [], 0, 0, 8, none⟩, some ⟨0, false, 1, [], 0, 0, 8, none⟩, some ⟨0, false, 1, [], 0, 0, 8, none⟩, some ⟨5, false, 1, [], 0, 0, 8, some .i64⟩, some ⟨0, false, 1, [], 0, 0, 0, none⟩, some ⟨0, false, 1, [], 0, 0, 8, none⟩, some ⟨0, false, 1, [], 0, 0, 8, none⟩, some ⟨0, false, 1, [], 0, 0, 8, none⟩, some ⟨0, false, 1, [], 0, 0, 8, none⟩, some ⟨0, false, 1, [], 0, 0, 8, none⟩, some ⟨5, false, 1, [], 0, 0, 4, some .u32⟩, some ⟨0, false, 1, [], 0, 0, 8, none⟩, some ⟨0, false, 1, [], 0, 0, 8, none⟩, some ⟨0, false, 1, [], 0, 0, 8, none⟩, some ⟨0, false, 1, [], 0, 0, 8, none⟩, some ⟨0, false, 1, [], 0, 0, 0, none⟩, some ⟨0, false, 1, [], 0, 0, 8, none⟩, some ⟨0, false, 1, [], 0, 0, 8, none⟩]
theorem tb4_ok : (List.range 40).map (fun t => tiOf Tryz.prog (t + 160)) = tb4 := by kernel_rfl
def tb5 : List (Option TI) := [some ⟨7, false, 1, [], 202, 0, 8, none⟩, some ⟨1, true, 2, [(0, 200), (1, 84)], 0, 0, 32, none⟩, some ⟨1, true, 2, [(0, 200), (1, 84)], 0, 0, 32, none⟩, some ⟨0, false, 1, [], 0, 0, 8, none⟩, some ⟨0, false, 1, [], 0, 0, 16, none⟩, some ⟨0, false, 1, [], 0, 0, 16, none⟩, some ⟨0, false, 1, [], 0, 0, 0, none⟩, some ⟨0, false, 1, [], 0, 0, 8, none⟩, some ⟨0, false, 1, [], 0, 0, 8, none⟩, some ⟨0, false, 1, [], 0, 0, 8, none⟩, some ⟨0, false, 1, [], 0, 0, 8, none⟩, some ⟨0, false, 1, [], 0, 0, 8, none⟩, some ⟨2, true, 35, [], 9, 35, 560, none⟩, some ⟨0, false, 1, [], 0, 0, 8, none⟩, some ⟨5, false, 1, [], 0, 0, 8, some .u64⟩, some ⟨0, false, 1, [], 0, 0, 8, none⟩, some ⟨0, false, 1, [], 0, 0, 8, none⟩, some ⟨7, false, 1, [], 3, 0, 8, none⟩, some ⟨0, false, 1, [], 0, 0, 8, none⟩, some ⟨0, false, 1, [], 0, 0, 8, none⟩, some ⟨7, false, 1, [], 5, 0, 8, none⟩, some ⟨0, false, 1, [], 0, 0, 0, none⟩, some ⟨0, false, 1, [], 0, 0, 8, none⟩, some ⟨0, false, 1, [], 0, 0, 8, none⟩, some ⟨0, false, 1, [], 0, 0, 8, none⟩, some ⟨0, false, 1, [], 0, 0, 8, none⟩, some ⟨7, false, 1, [], 214, 0, 8, none⟩, some ⟨0, false, 1, [], 0, 0, 0, none⟩, some ⟨0, false, 1, [], 0, 0, 8, none⟩, some ⟨0, false, 1, [], 0, 0, 8, none⟩, some ⟨0, false, 1, [], 0, 0, 8, none⟩, some ⟨0, false, 1, [], 0, 0, 8, none⟩, some ⟨0, false, 1, [], 0, 0, 0, none⟩, some ⟨0, false, 1, [], 0, 0, 8, none⟩, some ⟨3, false, 1, [], 245, 0, 24, none⟩, some ⟨2, true, 256, [], 5, 256, 256, none⟩, some ⟨1, true, 2, [(0, 5), (1, 5)], 0, 0, 2, none⟩, some ⟨1, true, 2, [(0, 5), (1, 5)], 0, 0, 2, none⟩, some ⟨2, true, 32, [], 237, 16, 32, none⟩, some ⟨7, false, 1, [], 245, 0, 8, none⟩]
theorem tb5_ok : (List.range 40).map (fun t => tiOf Tryz.prog (t + 200)) = tb5 := by kernel_rfl
def tb6 : List (Option TI) := [some ⟨0, false, 1, [], 0, 0, 8, none⟩, some ⟨0, false, 1, [], 0, 0, 8, none⟩, some ⟨2, true, 3, [], 21, 3, 12, none⟩, some ⟨2, true, 3, [], 21, 3, 12, none⟩, some ⟨1, true, 5, [(0, 192), (1, 192), (2, 243)], 0, 0, 20, none⟩, some ⟨1, true, 5, [(0, 192), (1, 192), (2, 243)], 0, 0, 20, none⟩, some ⟨1, true, 4, [(0, 17), (1, 17), (2, 17), (3, 9)], 0, 0, 40, none⟩, some ⟨1, true, 4, [(0, 17), (1, 17), (2, 17), (3, 9)], 0, 0, 40, none⟩, some ⟨2, true, 0, [], 16, 0, 0, none⟩, some ⟨1, true, 0, [(0, 248)], 0, 0, 0, none⟩, some ⟨1, true, 0, [(0, 248)], 0, 0, 0, none⟩, some ⟨5, false, 1, [], 0, 0, 1, some .u8⟩, some ⟨5, false, 1, [], 0, 0, 1, some .u8⟩, some ⟨0, false, 1, [], 0, 0, 8, none⟩, some ⟨5, false, 1, [], 0, 0, 4, some .i32⟩, some ⟨5, false, 1, [], 0, 0, 4, some .i32⟩, some ⟨1, true, 11, [(0, 12), (1, 12), (2, 192), (3, 251), (4, 5), (5, 5), (6, 252), (7, 253), (8, 220), (9, 254), (10, 255)], 0, 0, 48, none⟩, some ⟨1, true, 11, [(0, 12), (1, 12), (2, 192), (3, 251), (4, 5), (5, 5), (6, 252), (7, 253), (8, 220), (9, 254), (10, 255)], 0, 0, 48, none⟩]
theorem tb6_ok : (List.range 18).map (fun t => tiOf Tryz.prog (t + 240)) = tb6 := by kernel_rfl
def zb0 : List (Option Value) := [none, some (.nilFunc), some (.int .i64 0), some (.int .i64 0), some (.bool false), some (.int .u8 0), some (.int .u8 0), some (.agg #[.int .i64 0, .int .i64 0, .bool false, .int .u8 0]), some (.agg #[.int .i64 0, .int .i64 0, .bool false, .int .u8 0]), some (.string ⟨#[]⟩), some (.string ⟨#[]⟩), some (.string ⟨#[]⟩), some (.int .u64 0), some (.agg #[.string ⟨#[]⟩, .int .u64 0]), some (.agg #[.string ⟨#[]⟩, .int .u64 0]), some (.pointer none), some (.pointer none), some (.pointer none), some (.agg #[.pointer none]), some (.agg #[.pointer none]), some (.nilIface), some (.int .i32 0), some (.slice none 0 0), some (.slice none 0 0), some (.agg #[.string ⟨#[]⟩, .slice none 0 0, .slice none 0 0]), some (.agg #[.string ⟨#[]⟩, .slice none 0 0, .slice none 0 0]), some (.slice none 0 0), some (.nilFunc), some (.nilFunc), some (.nilFunc), some (.int .i64 0), some (.nilFunc), none, some (.nilFunc), some (.nilFunc), some (.nilFunc), some (.nilFunc), some (.nilFunc), some (.slice none 0 0), some (.nilFunc)]
theorem zb0_ok : (List.range 40).map (fun t => zrowOf Tryz.prog (t + 0)) = zb0 := by kernel_rfl
def zb1 : List (Option Value) := [some (.nilFunc), some (.agg #[.int .i64 0, .int .i64 0, .string ⟨#[]⟩]), some (.agg #[.int .i64 0, .int .i64 0, .string ⟨#[]⟩]), some (.nilFunc), some (.nilFunc), some (.nilFunc), some (.nilFunc), some (.slice none 0 0), some (.slice none 0 0), some (.agg #[.slice none 0 0]), some (.agg #[.slice none 0 0]), some (.nilFunc), some (.nilFunc), some (.nilFunc), some (.nilFunc), some (.nilFunc), some (.nilFunc), some (.nilFunc), some (.nilFunc), some (.slice none 0 0), some (.nilFunc), some (.agg #[.string ⟨#[]⟩, .string ⟨#[]⟩]), some (.agg #[.string ⟨#[]⟩, .string ⟨#[]⟩]), some (.nilFunc), some (.slice none 0 0), some (.agg #[.int .i64 0, .string ⟨#[]⟩, .string ⟨#[]⟩, .slice none 0 0, .slice none 0 0, .slice none 0 0, .slice none 0 0]), some (.agg #[.int .i64 0, .string ⟨#[]⟩, .string ⟨#[]⟩, .slice none 0 0, .slice none 0 0, .slice none 0 0, .slice none 0 0]), some (.nilFunc), none, some (.nilFunc), some (.nilFunc), some (.nilFunc), some (.nilFunc), some (.nilFunc), none, some (.nilFunc), some (.nilFunc), some (.nilFunc), none, some (.nilFunc)]
theorem zb1_ok : (List.range 40).map (fun t => zrowOf Tryz.prog (t + 40)) = zb1 := by kernel_rfl
def zb2 : List (Option Value) := [some (.nilFunc), some (.nilFunc), some (.nilFunc), some (.slice none 0 0), some (.slice none 0 0), none, some (.nilFunc), some (.nilFunc), some (.nilFunc), some (.nilFunc), some (.nilFunc), some (.int .u64 0), some (.nilFunc), some (.agg #[.string ⟨#[]⟩, .int .i64 0, .bool false, .bool false]), some (.agg #[.string ⟨#[]⟩, .int .i64 0, .bool false, .bool false]), some (.nilFunc), some (.nilFunc), some (.nilFunc), some (.nilFunc), some (.nilFunc), some (.nilFunc), some (.nilFunc), some (.nilFunc), some (.nilFunc), some (.nilFunc), none, some (.nilFunc), some (.nilFunc), some (.nilFunc), some (.nilFunc), some (.pointer none), some (.nilFunc), some (.nilFunc), none, some (.nilFunc), some (.nilFunc), some (.nilFunc), some (.nilFunc), some (.nilFunc), some (.nilFunc)]
theorem zb2_ok : (List.range 40).map (fun t => zrowOf Tryz.prog (t + 80)) = zb2 := by kernel_rfl
def zb3 : List (Option Value) := [some (.pointer none), some (.pointer none), some (.nilFunc), some (.agg #[.pointer none, .bool false, .bool false]), some (.agg #[.pointer none, .bool false, .bool false]), some (.nilFunc), some (.nilFunc), some (.nilFunc), some (.pointer none), some (.agg #[.slice none 0 0, .bool false, .bool false]), some (.agg #[.slice none 0 0, .bool false, .bool false]), some (.nilFunc), some (.nilFunc), some (.map none), some (.nilFunc), some (.nilFunc), some (.nilFunc), some (.nilFunc), some (.nilFunc), some (.int .u64 0), some (.nilFunc), some (.nilFunc), some (.nilFunc), some (.nilFunc), some (.nilFunc), some (.nilFunc), some (.nilFunc), some (.nilFunc), some (.nilFunc), some (.nilFunc), some (.nilFunc), some (.nilFunc), some (.nilFunc), some (.nilFunc), some (.nilFunc), some (.nilFunc), some (.nilFunc), some (.agg #[.slice none 0 0, .int .i64 0]), some (.agg #[.slice none 0 0, .int .i64 0]), some (.agg #[.slice none 0 0, .int .i64 0, .int .i64 0])]
theorem zb3_ok : (List.range 40).map (fun t => zrowOf Tryz.prog (t + 120)) = zb3 := by kernel_rfl
def zb4 : List (Option Value) := [some (.agg #[.slice none 0 0, .int .i64 0, .int .i64 0]), some (.nilFunc), some (.nilFunc), some (.nilFunc), none, some (.nilFunc), some (.nilFunc), some (.nilFunc), some (.slice none 0 0), some (.nilFunc), some (.nilFunc), some (.nilFunc), none, some (.nilFunc), some (.nilFunc), some (.nilFunc), some (.nilFunc), some (.nilFunc), none, some (.nilFunc), some (.nilFunc), some (.nilFunc), some (.nilFunc), some (.nilFunc), some (.nilFunc), some (.int .i64 0), none, some (.nilFunc), some (.nilFunc), some (.nilFunc), some (.nilFunc), some (.nilFunc), some (.int .u32 0), some (.nilFunc), some (.nilFunc), some (.nilFunc), some (.nilFunc), none, some (.nilFunc), some (.nilFunc)]
theorem zb4_ok : (List.range 40).map (fun t => zrowOf Tryz.prog (t + 160)) = zb4 := by kernel_rfl
def zb5 : List (Option Value) := [some (.pointer none), some (.agg #[.pointer none, .slice none 0 0]), some (.agg #[.pointer none, .slice none 0 0]), some (.nilFunc), some (.nilIface), some (.nilIface), none, some (.nilFunc), some (.nilFunc), some (.nilFunc), some (.nilFunc), some (.nilFunc), some (.agg #[.string ⟨#[]⟩, .string ⟨#[]⟩, .string ⟨#[]⟩, .string ⟨#[]⟩, .string ⟨#[]⟩, .string ⟨#[]⟩, .string ⟨#[]⟩, .string ⟨#[]⟩, .string ⟨#[]⟩, .string ⟨#[]⟩, .string ⟨#[]⟩, .string ⟨#[]⟩, .string ⟨#[]⟩, .string ⟨#[]⟩, .string ⟨#[]⟩, .string ⟨#[]⟩, .string ⟨#[]⟩, .string ⟨#[]⟩, .string ⟨#[]⟩, .string ⟨#[]⟩, .string ⟨#[]⟩, .string ⟨#[]⟩, .string ⟨#[]⟩, .string ⟨#[]⟩, .string ⟨#[]⟩, .string ⟨#[]⟩, .string ⟨#[]⟩, .string ⟨#[]⟩, .string ⟨#[]⟩, .string ⟨#[]⟩, .string ⟨#[]⟩, .string ⟨#[]⟩, .string ⟨#[]⟩, .string ⟨#[]⟩, .string ⟨#[]⟩]), some (.nilFunc), some (.int .u64 0), some (.nilFunc), some (.nilFunc), some (.pointer none), some (.nilFunc), some (.nilFunc), some (.pointer none), none, some (.nilFunc), some (.nilFunc), some (.nilFunc), some (.nilFunc), some (.pointer none), none, some (.nilFunc), some (.pointer none), some (.nilFunc), some (.nilFunc), none, some (.nilFunc), some (.slice none 0 0), none, some (.agg #[.int .u8 0, .int .u8 0]), some (.agg #[.int .u8 0, .int .u8 0]), some (.agg #[.int .u8 0, .int .u8 0, .int .u8 0, .int .u8 0, .int .u8 0, .int .u8 0, .int .u8 0, .int .u8 0, .int .u8 0, .int .u8 0, .int .u8 0, .int .u8 0, .int .u8 0, .int .u8 0, .int .u8 0, .int .u8 0, .int .u8 0, .int .u8 0, .int .u8 0, .int .u8 0, .int .u8 0, .int .u8 0, .int .u8 0, .int .u8 0, .int .u8 0, .int .u8 0, .int .u8 0, .int .u8 0, .int .u8 0, .int .u8 0, .int .u8 0, .int .u8 0]), some (.pointer none)]
theorem zb5_ok : (List.range 40).map (fun t => zrowOf Tryz.prog (t + 200)) = zb5 := by kernel_rfl
def zb6 : List (Option Value) := [some (.nilFunc), some (.nilFunc), some (.agg #[.int .i32 0, .int .i32 0, .int .i32 0]), some (.agg #[.int .i32 0, .int .i32 0, .int .i32 0]), some (.agg #[.int .u32 0, .int .u32 0, .int .i32 0, .int .i32 0, .int .i32 0]), some (.agg #[.int .u32 0, .int .u32 0, .int .i32 0, .int .i32 0, .int .i32 0]), some (.agg #[.pointer none, .pointer none, .pointer none, .string ⟨#[]⟩]), some (.agg #[.pointer none, .pointer none, .pointer none, .string ⟨#[]⟩]), some (.agg #[]), some (.agg #[]), some (.agg #[]), some (.int .u8 0), some (.int .u8 0), some (.nilFunc), some (.int .i32 0), some (.int .i32 0), some (.agg #[.int .u64 0, .int .u64 0, .int .u32 0, .int .u8 0, .int .u8 0, .int .u8 0, .int .u8 0, .nilFunc, .pointer none, .int .i32 0, .int .i32 0]), some (.agg #[.int .u64 0, .int .u64 0, .int .u32 0, .int .u8 0, .int .u8 0, .int .u8 0, .int .u8 0, .nilFunc, .pointer none, .int .i32 0, .int .i32 0])]
theorem zb6_ok : (List.range 18).map (fun t => zrowOf Tryz.prog (t + 240)) = zb6 := by kernel_rfl
def tg (t : Nat) : Option TI := (match t / 40 with | 0 => tb0 | 1 => tb1 | 2 => tb2 | 3 => tb3 | 4 => tb4 | 5 => tb5 | 6 => tb6 | _ => [])[t % 40]?.join
def zg (t : Nat) : Option Value := (match t / 40 with | 0 => zb0 | 1 => zb1 | 2 => zb2 | 3 => zb3 | 4 => zb4 | 5 => zb5 | 6 => zb6 | _ => [])[t % 40]?.join
theorem zfin {t : Nat} {x : Value} (h : zrowOf Tryz.prog t = some x) : (Tryz.prog.info? t).map (·.zero) = some (some x) := by
  unfold zrowOf at h
  split at h
  · cases hi : Tryz.prog.info? t with
    | none => simp [hi] at h
    | some i => simp [hi] at h ⊢; exact h
  · cases h
theorem tT {t : Nat} {x : TI} (h : tg t = some x) : tiOf Tryz.prog t = some x := by
  unfold tg at h
  have ht : t = t % 40 + 40 * (t / 40) := by omega
  generalize t % 40 = r at h ht
  generalize t / 40 = q at h ht
  subst ht
  split at h
  · rw [Option.join_eq_some_iff] at h
    exact tb_at (k := 0) tb0_ok h
  · rw [Option.join_eq_some_iff] at h
    exact tb_at (k := 40) tb1_ok h
  · rw [Option.join_eq_some_iff] at h
    exact tb_at (k := 80) tb2_ok h
  · rw [Option.join_eq_some_iff] at h
    exact tb_at (k := 120) tb3_ok h
  · rw [Option.join_eq_some_iff] at h
    exact tb_at (k := 160) tb4_ok h
  · rw [Option.join_eq_some_iff] at h
    exact tb_at (k := 200) tb5_ok h
  · rw [Option.join_eq_some_iff] at h
    exact tb_at (k := 240) tb6_ok h
  · simp at h
theorem zT {t : Nat} {x : Value} (h : zg t = some x) : (Tryz.prog.info? t).map (·.zero) = some (some x) := by
  unfold zg at h
  have ht : t = t % 40 + 40 * (t / 40) := by omega
  generalize t % 40 = r at h ht
  generalize t / 40 = q at h ht
  subst ht
  split at h
  · rw [Option.join_eq_some_iff] at h
    exact zfin (tb_at (k := 0) zb0_ok h)
  · rw [Option.join_eq_some_iff] at h
    exact zfin (tb_at (k := 40) zb1_ok h)
  · rw [Option.join_eq_some_iff] at h
    exact zfin (tb_at (k := 80) zb2_ok h)
  · rw [Option.join_eq_some_iff] at h
    exact zfin (tb_at (k := 120) zb3_ok h)
  · rw [Option.join_eq_some_iff] at h
    exact zfin (tb_at (k := 160) zb4_ok h)
  · rw [Option.join_eq_some_iff] at h
    exact zfin (tb_at (k := 200) zb5_ok h)
  · rw [Option.join_eq_some_iff] at h
    exact zfin (tb_at (k := 240) zb6_ok h)
  · simp at h
end Go.Proofs.YtpgfhkbnngjegaaGreatDoor

namespace Go.Proofs.YtpgfhkbnngjegaaGreatDoor
open Go.RowKit
set_option linter.unusedVariables false
set_option linter.unusedSimpArgs false

def tabX : Tab := fun t => match tg t with
  | some x => some (x, zg t)
  | none => none
theorem tabX_ok : TabOk Tryz.prog tabX where
  ty t x z h := by
    unfold tabX at h
    split at h
    · rename_i y hy
      simp only [Option.some.injEq, Prod.mk.injEq] at h
      obtain ⟨rfl, rfl⟩ := h
      exact ⟨tT hy, fun v hv => zT hv⟩
    · cases h
  mo := by kernel_rfl
end Go.Proofs.YtpgfhkbnngjegaaGreatDoor

namespace Go.Proofs.YtpgfhkbnngjegaaGreatDoor
open Go.RowKit
set_option linter.unusedVariables false
set_option linter.unusedSimpArgs false

section
variable {P : Program} {B : Nat} {w0 : World} {T : Tab} {n : Nat} {e : Env} {h : List XLB} {gs : Frames} {K : XQ} {c : Code}
/-- What is known of a slot behind a mark. -/
inductive MarkV (n : Nat) (h : List XLB) (us : Nat → Value) (e : Env) (d : Nat) : XV → Prop
  | any : MarkV n h us e d .any
  | val {x : Value} {hp : Nl (.v x)} (hv : look e d = .p (.v x) hp) : MarkV n h us e d (.p (.v x) hp)
  | pin {t0 t : TV} {hn : Nl t} (hd : Nat.blt d n = true) (ha : argP (h.map XLB.den) (look e d).den = some t0) (hp : Pu t0) (hu : untag t0 = t) : MarkV n h us e d (.pin (us d) t hn)
/-- What is known of a slot behind the marked code. -/
inductive BackV (n : Nat) (us : Nat → Value) (e : Env) (w : XV) : XV → Prop
  | any : BackV n us e w .any
  | val {x y : Value} {hp : Nl (.v x)} {hq : Nl (.v y)} (hv : w = .p (.v x) hp) (hx : x = y) : BackV n us e w (.p (.v y) hq)
  | pin {k : Nat} {t : TV} {hn : Nl t} (hv : w = .pin (us k) t hn) (hk : Nat.blt k n = true) : BackV n us e w (look e k)
theorem Rel.none {M : Nat} {w : World} {ρ : Nat → Value} (hg : GlB M w0) (hb : Below M w0 w) (hs : M ≤ w.heap.size) (ho : Oth w0 w) : Rel M w0 ρ (hf []) w where
  oth := ho
  below := hb
  gl0 := hg
  size := hs
  blk i t cs hi := by simp [hf] at hi
  row i e sz els hi := by simp [hf] at hi
  sep i j g hi hj _ _ := by simp [hf, LB.here] at hi
  ext i x hi := by simp [hf] at hi
  inj i g hi _ := by simp [hf, LB.here] at hi
/-- What is left known of a slot behind a call that writes over all that was made behind the mark. -/
inductive SpV (w : XV) : XV → Prop
  | any : SpV w .any
  | val {x : Value} {hp hq : Nl (.v x)} (hv : w = .p (.v x) hp) : SpV w (.p (.v x) hq)
  | pin {u : Value} {t t' : TV} {hp : Nl t} {hq : Nl t'} (hv : w = .pin u t hp) : SpV w (.pin u t' hq)
/-- A function that writes over what was made behind a mark, and over nothing else. -/
structure BelO (B : Nat) (w w' : World) : Prop extends Below B w w' where
  oth : Oth w w'
/-- As XMeets.of_X, with regions ahead of which the walk stops. -/
theorem XMeets.of_XM (ms : Env) (O : TabOk P T) {f : FuncId} {fn : Func} {c : Code} {args : List TV} {avs : List XV} {r : XV} (e0 : Env) (hE : entB P f = true) (hfn : P.funcs[f]? = some fn) (hb : fn.body = some c) (hp : PuL args) (hu : untagL args = XV.denL avs) (he : envA avs 0 = e0) (hle : Nat.ble avs.length fn.ntmps = true)
    (hx : ∀ B w0, X P B w0 T fn.ntmps c e0 [] [(0, ms)] (finQ T fn.ntmps fn.results.toList r.den)) : XMeets P f args r := ⟨hE, TMeets.of_TW hfn hb hp fun B w0 => by
  have hle := Nat.le_of_ble_eq_true hle
  have hl : args.length = (XV.denL avs).length := by rw [← hu]; exact (XMeets.of_X.untagL_len args).symm
  rw [hu, hl, ← toL_envA hle, he]
  have e1 : xst fn.ntmps e0 [] [(0, ms)] = ⟨toL fn.ntmps e0, [], []⟩ := rfl
  have := (X_ok O (hx B w0)).ok [] (endT P fn r.den) (fun ex e h gs hk => by
    have fin : ∀ {ex : Exit}, (ex = .normal ∨ ex = .ret) → (resX T fn.ntmps e h fn.results.toList fun v => FinG h v r.den) → endT P fn r.den ex (xst fn.ntmps e h gs) := fun hex hk => by
      obtain ⟨v, hv, q, ho, hq⟩ := resX_ok O (g := denG gs) hk
      exact ⟨hex, v.den, q, hv, ho, hq⟩
    cases ex with
    | normal => exact fin (.inl rfl) hk
    | ret => exact fin (.inr rfl) hk
    | _ => exact hk.elim)
  rw [e1] at this
  exact this⟩
end
end Go.Proofs.YtpgfhkbnngjegaaGreatDoor

namespace Go.Proofs.YtpgfhkbnngjegaaGreatDoor
open Go.RowKit
set_option linter.unusedVariables false
set_option linter.unusedSimpArgs false

/-- Numbers are written over numbers, and nothing else, in what was made behind a mark. -/
structure Shp (M : Nat) (w w' : World) : Prop where
  below : Below M w w'
  oth : Oth w w'
  cell : ∀ a v, w.cell? a = some v → w'.cell? a = some v ∨ ∃ k x y, v = .int k x ∧ w'.cell? a = some (.int k y)
  unf : ∀ k, Unf w k → Unf w' k
section
variable {P : Program} {B : Nat} {w0 : World} {T : Tab} {n : Nat} {e : Env} {h : List XLB} {gs : Frames} {K : XQ} {c : Code}
end
end Go.Proofs.YtpgfhkbnngjegaaGreatDoor

namespace Go.Proofs.YtpgfhkbnngjegaaGreatDoor
open Go.RowKit
set_option linter.unusedVariables false
set_option linter.unusedSimpArgs false

section
variable {P : Program} {B : Nat} {w0 : World} {gh : List Value} {Q Q' : Exit → Act → World → Prop} {ops : Array Oper}
end
section
variable {P : Program} {B : Nat} {w0 : World} {gh : List Value} {ops : Array Oper}
end
section
variable {P : Program} {B : Nat} {w0 : World} {T : Tab} {n : Nat} {e : Env} {h : List XLB} {gs : Frames} {K : XQ} {c : Code}
end
end Go.Proofs.YtpgfhkbnngjegaaGreatDoor

namespace Go.Proofs.YtpgfhkbnngjegaaGreatDoor
open Go.RowKit
set_option linter.unusedVariables false
set_option linter.unusedSimpArgs false

/-- Numbers are written over numbers behind a mark, in blocks of which may be spoken alone. -/
structure ShpS (S : Nat → Prop) (M : Nat) (w w' : World) : Prop where
  s : Shp M w w'
  k : ∀ k, k < w.heap.size → ¬ S k → w'.heap[k]? = w.heap[k]?
section
variable {P : Program} {B : Nat} {w0 : World} {n : Nat} {e : Env} {h : List XLB} {gs : Frames}
end
end Go.Proofs.YtpgfhkbnngjegaaGreatDoor

namespace Go.Proofs.YtpgfhkbnngjegaaGreatDoor
open Go.RowKit
set_option linter.unusedVariables false
set_option linter.unusedSimpArgs false

mutual
/-- Only local blocks below m are spoken of. -/
def lowB (m : Nat) : XV → Bool
  | .p _ _ => true
  | .any => true
  | .row j => Nat.blt j m
  | .ptr j _ => Nat.blt j m
  | .rp j _ _ _ => Nat.blt j m
  | .ag vs => lowBL m vs
  | .tu vs => lowBL m vs
  | .fu _ vs => lowBL m vs
  | .ow _ _ _ _ => true
  | .pin _ _ _ => true
  | .z j _ _ => Nat.blt j m
  | .win j _ _ => Nat.blt j m
def lowBL (m : Nat) : List XV → Bool
  | [] => true
  | v :: vs => match lowB m v with
    | true => lowBL m vs
    | false => false
end
mutual
theorem lowX_id {m : Nat} : ∀ v : XV, lowB m v = true → lowX m v = v
  | .p _ _, _ => rfl
  | .any, _ => rfl
  | .row j, h => by simp only [lowB] at h; simp only [lowX, h]
  | .ptr j _, h => by simp only [lowB] at h; simp only [lowX, h]
  | .rp j _ _ _, h => by simp only [lowB] at h; simp only [lowX, h]
  | .ag vs, h => by simp only [lowB] at h; simp only [lowX, lowXL_id vs h]
  | .tu vs, h => by simp only [lowB] at h; simp only [lowX, lowXL_id vs h]
  | .fu _ vs, h => by simp only [lowB] at h; simp only [lowX, lowXL_id vs h]
  | .ow _ _ _ _, _ => rfl
  | .pin _ _ _, _ => rfl
  | .z j _ _, h => by simp only [lowB] at h; simp only [lowX, h]
  | .win j _ _, h => by simp only [lowB] at h; simp only [lowX, h]
theorem lowXL_id {m : Nat} : ∀ vs : List XV, lowBL m vs = true → lowXL m vs = vs
  | [], _ => rfl
  | v :: vs, h => by
    simp only [lowBL] at h
    split at h
    · rename_i h1
      simp only [lowXL, lowX_id v h1, lowXL_id vs h]
    · cases h
end
def lowE (m : Nat) : List Nat → Env → Bool
  | _, [] => true
  | ds, x :: r => match memN x.1 ds with
    | true => false
    | false => match lowB m x.2 with
      | true => lowE m (x.1 :: ds) r
      | false => false
theorem memN_ne {d i : Nat} {ds : List Nat} (h : memN d ds = false) (hi : i ∈ ds) : i ≠ d := by
  induction ds with
  | nil => cases hi
  | cons x r ih =>
    simp only [memN] at h
    cases hb : Nat.beq x d with
    | true => rw [hb] at h; cases h
    | false =>
      rw [hb] at h
      rcases List.mem_cons.1 hi with rfl | hi
      · exact Nat.ne_of_beq_eq_false hb
      · exact ih h hi
theorem lowE_le {m : Nat} : ∀ {r pre : Env} {ds : List Nat}, (∀ x ∈ pre, x.1 ∈ ds) → lowE m ds r = true → LeEnv m (pre ++ r) r
  | [], _, _, _, _ => True.intro
  | x :: r, pre, ds, hp, h => by
    simp only [lowE] at h
    split at h
    · cases h
    · rename_i h1
      split at h
      · rename_i h2
        have e1 : look (pre ++ x :: r) x.1 = x.2 := by
          have h3 : ∀ y ∈ pre, y.1 ≠ x.1 := fun y hy => memN_ne h1 (hp y hy)
          clear hp
          induction pre with
          | nil => exact look_same r x.1 x.2
          | cons y p ih =>
            have := look_ne (p ++ x :: r) y.2 (h3 y (List.mem_cons_self ..))
            exact this.trans (ih fun z hz => h3 z (List.mem_cons_of_mem _ hz))
        refine ⟨by rw [e1, lowX_id _ h2]; exact .rfl, ?_⟩
        have := lowE_le (m := m) (r := r) (pre := pre ++ [x]) (ds := x.1 :: ds) (fun y hy => by
          rcases List.mem_append.1 hy with hy | hy
          · exact List.mem_cons_of_mem _ (hp y hy)
          · rw [List.mem_singleton.1 hy]; exact List.mem_cons_self ..) h
        rwa [List.append_assoc] at this
      · cases h
def lowG (m : Nat) : Frames → Bool
  | [] => true
  | f :: r => match lowE m [] f.2 with
    | true => lowG m r
    | false => false
/-- Frames whose slots are told once, and that speak of local blocks below m alone. -/
theorem LeFr.same {m : Nat} : ∀ {gs : Frames}, lowG m gs = true → LeFr m gs gs
  | [], _ => rfl
  | f :: r, h => by
    simp only [lowG] at h
    split at h
    · rename_i h1
      exact ⟨f, r, rfl, rfl, lowE_le (pre := []) (fun _ hx => by cases hx) h1, LeFr.same h⟩
    · cases h
section
variable {P : Program} {B : Nat} {w0 : World} {T : Tab} {n : Nat} {e : Env} {h : List XLB} {gs : Frames} {K : XQ} {c : Code}
end
end Go.Proofs.YtpgfhkbnngjegaaGreatDoor
