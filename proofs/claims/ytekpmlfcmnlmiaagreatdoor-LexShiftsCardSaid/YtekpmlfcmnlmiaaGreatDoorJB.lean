/- Functions of the library on texts, as trees. No condition. -/
import Derived.Test.YtekpmlfcmnlmiaaGreatDoorU6
import Derived.Test.YtekpmlfcmnlmiaaGreatDoorShelf
namespace Go.Proofs.YtekpmlfcmnlmiaaGreatDoor
open Go.RowKit
set_option linter.unusedVariables false
set_option linter.unusedSimpArgs false

def st1 (s : ByteArray) : List TV := [.v (.string s)]
theorem nl_st (l : List ByteArray) : NlLL (l.map st1) := .map fun x _ => .cons (nlv _) .nil
theorem untag_st (l : List ByteArray) : untagLL (l.map st1) = l.map st1 := by rw [untagLL_map]; rfl
theorem pu_st (l : List ByteArray) : PuLL (l.map st1) := PuLL_map _ _ fun x _ => by simp [st1, PuL, Pu]
theorem fr_st (l : List ByteArray) : FrLL (l.map st1) := FrLL_map _ _ fun x _ => by simp [st1, FrL, Fr]
theorem st_len (l : List ByteArray) : ∀ x ∈ l.map st1, x.length = 1 := fun x hx => by obtain ⟨s, _, rfl⟩ := List.mem_map.1 hx; rfl
theorem st_one (l : List ByteArray) : ∀ x ∈ l.map st1, x.all TV.one = true := fun x hx => by obtain ⟨s, _, rfl⟩ := List.mem_map.1 hx; rfl
theorem dn_st1 {C : Cx} : ∀ {l : List ByteArray} {css : List (List Value)}, DnLL C (l.map st1) css → css.flatten = l.map Value.string
  | [], css, h => by simp only [List.map_nil, DnLL] at h; subst h; rfl
  | s :: l, css, h => by
    simp only [List.map_cons, DnLL, st1, DnL, Dn] at h
    obtain ⟨u, us, rfl, ⟨v, vs, rfl, rfl, rfl⟩, h2⟩ := h
    simp [dn_st1 h2]
theorem res_v {C : Cx} {w' : World} {u : Value} {hp : Nl (.v u)} (hb : Below C.w.heap.size C.w w') : ∃ u' ov, Ending.returned u = .returned u' ∧ Below C.w.heap.size C.w w' ∧ (∀ g, blkOf ov = some g → C.w.heap.size ≤ g ∧ g < w'.heap.size) ∧ Dn (rsCx C.w.heap.size w' ov) (XV.p (.v u) hp).den u' :=
  ⟨u, .nilFunc, rfl, hb, fun g hg => (by cases hg), by simp [XV.den, Dn]⟩
theorem upper_X (s : ByteArray) (hs : s.size ≤ 140737488355328) (ha : ∀ b ∈ bs s, b.toNat < 128) : XMeets Tryz.prog 57 [.v (.string s)] (.p (.v (.string ⟨(Lib.toUpperA (bs s)).toArray⟩)) (nlv _)) := ⟨by kernel_rfl, fun C vals _ hd => by
  simp only [DnL, Dn] at hd
  obtain ⟨u, us, rfl, rfl, rfl⟩ := hd
  refine (Tryz.strings_ToUpper_ascii s C.w hs (fun j b hb => ha b (List.mem_of_getElem? hb))).mono ?_
  rintro e w' ⟨rfl, hb⟩
  exact res_v hb⟩
theorem prefix_X (s p : ByteArray) : XMeets Tryz.prog 30 [.v (.string s), .v (.string p)] (.p (.v (.bool (Lib.hasPrefix (bs s) (bs p)))) (nlv _)) := ⟨by kernel_rfl, fun C vals _ hd => by
  simp only [DnL, Dn] at hd
  obtain ⟨u, us, rfl, rfl, u2, us2, rfl, rfl, rfl⟩ := hd
  refine (Tryz.strings_HasPrefix s p C.w).mono ?_
  rintro e w' ⟨rfl, hb⟩
  subst hb
  exact res_v (Below.refl _ _)⟩
set_option maxHeartbeats 1600000 in
theorem clone_str : CloneC Tryz.prog 80 9 1 := ⟨by kernel_rfl, by omega, fun A m c xs w hs hm h1 => by
  have T0 : ElemTy Tryz.prog 48 9 (.string ⟨#[]⟩) 1 16 := ⟨Tryz.underlying48, by kernel_rfl, rfl, by omega, by omega⟩
  rcases A with _ | ad
  · have hq0 := hs.2.1 rfl
    subst hq0
    have HP := Lib.hid hs.empty
    have hnil := fun (w : World) => Lib.run_eql_slice_nil (P := Tryz.prog) w 48 9 (none) 0 c 0 0 Tryz.underlying48
    go_enter Tryz.func80, Tryz.ntmps80
    go_wp2
    go_ret
    exact ⟨none, 0, rfl, by rw [HP.out]; exact World.ownsRow_nil _ _ _ _, Below.refl _ _⟩
  · have hnil := fun (w : World) => Lib.run_eql_slice_nil (P := Tryz.prog) w 48 9 (some ad) m c 0 0 Tryz.underlying48
    go_enter Tryz.func80, Tryz.ntmps80
    go_wp2_with (at_builtin; refine Door.enter ?_)
    refine Door.leave (wl_append T0 (base := w.heap.size) (World.ownsRow_lit w #[] 0 (Nat.le_refl _) (by simp [maxLen]) (by simp)) (hs.alloc _) (Nat.zero_add _) (List.nil_append _) h1 (by omega) (by simp) rfl rfl rfl rfl ?_)
    intro A' c' w' h2 h3 h4 h5
    go_wp2
    go_ret
    exact ⟨A', c', rfl, h2, ((Below.refl _ w).alloc (Nat.le_refl _) _).trans h3⟩⟩
/-- The words that are kept. -/
def keysL : List ByteArray := [⟨#[67, 82, 69, 65, 84, 69]⟩, ⟨#[84, 65, 66, 76, 69]⟩, ⟨#[68, 82, 79, 80]⟩, ⟨#[73, 78, 83, 69, 82, 84]⟩, ⟨#[73, 78, 84, 79]⟩, ⟨#[86, 65, 76, 85, 69, 83]⟩, ⟨#[85, 80, 68, 65, 84, 69]⟩, ⟨#[83, 69, 84]⟩, ⟨#[68, 69, 76, 69, 84, 69]⟩, ⟨#[70, 82, 79, 77]⟩, ⟨#[83, 69, 76, 69, 67, 84]⟩, ⟨#[87, 72, 69, 82, 69]⟩, ⟨#[73, 78, 78, 69, 82]⟩, ⟨#[74, 79, 73, 78]⟩, ⟨#[79, 78]⟩, ⟨#[79, 82, 68, 69, 82]⟩, ⟨#[66, 89]⟩, ⟨#[65, 83, 67]⟩, ⟨#[68, 69, 83, 67]⟩, ⟨#[76, 73, 77, 73, 84]⟩, ⟨#[71, 82, 79, 85, 80]⟩, ⟨#[67, 79, 85, 78, 84]⟩, ⟨#[83, 85, 77]⟩, ⟨#[65, 78, 68]⟩, ⟨#[79, 82]⟩, ⟨#[78, 79, 84]⟩, ⟨#[78, 85, 76, 76]⟩, ⟨#[84, 82, 85, 69]⟩, ⟨#[70, 65, 76, 83, 69]⟩, ⟨#[73, 83]⟩, ⟨#[73, 78, 84]⟩, ⟨#[66, 79, 79, 76]⟩, ⟨#[84, 69, 88, 84]⟩, ⟨#[80, 82, 73, 77, 65, 82, 89]⟩, ⟨#[75, 69, 89]⟩]
end Go.Proofs.YtekpmlfcmnlmiaaGreatDoor
