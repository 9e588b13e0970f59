/- strconv.ParseUint of digits, as trees. Condition: what the package-level variables hold. -/
import Derived.Test.YtekpmlfcmnlmiaaGreatDoorU4
import Derived.WideLaws
import Derived.Test.YtekpmlfcmnlmiaaGreatDoorJB
namespace Go.Proofs.YtekpmlfcmnlmiaaGreatDoor
open Go.RowKit
set_option linter.unusedVariables false
set_option linter.unusedSimpArgs false

/-- What a function makes of arguments, but for something that is not told. -/
def XMeetsE (P : Program) (f : FuncId) (args : List TV) {Y : Type} (p : Y → Prop) (r : Y → XV) : Prop := entB P f = true ∧
  ∀ (C : Cx) (vals : List Value), GlB C.w.heap.size C.w → DnL C args vals → Calls P f vals.toArray C.w fun e w' => ∃ y u ov, p y ∧ e = .returned u ∧ Below C.w.heap.size C.w w' ∧
    (∀ g, blkOf ov = some g → C.w.heap.size ≤ g ∧ g < w'.heap.size) ∧ Dn (rsCx C.w.heap.size w' ov) (r y).den u
/-- An interface value beside nil. -/
theorem bin_nil {P : Program} {t : TypeId} {x : Operand} {c : Value} (h : P.underlying t = some (.interface (P.methodsAt t))) : ∀ w, (do eqGuard .neq t x (.const c) .nilIface .nilIface; binOp .neq t .nilIface .nilIface : Sem Value).run P w = .ok (.bool false) w := fun w => by
  rw [eqGuard_nil_constR]
  exact run_neq_nil_nil w t h
theorem bin_held {P : Program} {t : TypeId} {x : Operand} {c : Value} {te : TypeId} {pe : Value} (h : P.underlying t = some (.interface (P.methodsAt t))) : ∀ w, (do eqGuard .neq t x (.const c) (.iface te pe) .nilIface; binOp .neq t (.iface te pe) .nilIface : Sem Value).run P w = .ok (.bool true) w := fun w => run_neq_held_nil w t te pe h
section
variable {P : Program} {B : Nat} {w0 : World} {n : Nat} {e : Env} {h : List XLB} {gs : Frames}
theorem WCall.ex {f : FuncId} {vs : List XV} {dst : Option Tmp} {k : KK} {ts : List TV} {Y : Type} {p : Y → Prop} {r : Y → XV} (hm : XMeetsE P f ts p r) (ha : argPL (h.map XLB.den) (XV.denL vs) = some ts)
    (hk : ∀ y, p y → fv (r y) fun v => putK n e dst v fun e' => k e' h gs) : WCall P B w0 f vs n e h gs dst k := ⟨by
  intro gh Q ops rest o cl fop cvs hg ho hcl hf hvs hdst hK ρ a w hr
  subst hdst
  refine wpList_plain hg fun K0 hK0 => ?_
  have e1 : XV.denL vs = cl.args.toList.map (tev (toL n e)) ++ XV.denL cvs := by rw [hvs, denL_map (_ ++ _), List.map_append, ← denL_map, ← denL_map, evL_den]
  rw [e1] at ha
  have h1 := tev_dn hr.slots fop
  have hf' : tev (xst n e h gs).s fop = .fn (.func f) (XV.denL cvs) := hf
  rw [hf'] at h1
  simp only [Dn] at h1
  obtain ⟨cv, h2, h3⟩ := h1
  have h4 := (eval_list (C := cxOf B ρ (Go.Proofs.YtekpmlfcmnlmiaaGreatDoor.hf (xst n e h gs).h) w) (s := (xst n e h gs).s) (a := a) cl.args.toList fun x _ => tev_dn hr.slots x).append h3
  have h5 := argPL_dn (fun i _ => .inr rfl) hr.rel _ _ _ ha h4
  have h6 := hm.2 (cxAll B ρ (Go.Proofs.YtekpmlfcmnlmiaaGreatDoor.hf (xst n e h gs).h) w) _ hr.rel.glb h5
  have e2 : (cl.args.map a.eval ++ cv.toArray) = (cl.args.toList.map a.eval ++ cv).toArray := by
    apply Array.ext'
    simp
  unfold Oper.wp
  rw [call_run ho hcl h2 hm.1]
  unfold Oper.upon
  rw [e2]
  refine h6.mono ?_
  rintro _ w' ⟨y, u, ov, hp, rfl, hb, hov, hd⟩
  obtain ⟨e', he', hk2⟩ := putK_ok (fv_ok (k := fun v => putK n e o.dst v fun e' => k e' h gs) (hk y hp))
  have hd' : Dn (cxOf B ρ (Go.Proofs.YtekpmlfcmnlmiaaGreatDoor.hf (xst n e h gs).h) w') (r y).den u := Dn.keep (.res rfl hr.rel.size fun i hi g hg => .inl (hr.rel.inj i g hi hg)) _ _ hd
  refine hK0 _ _ (hK _ _ _ hk2 ρ _ _ ⟨?_, DnL.keep (.grow hb) _ _ hr.ghost, hr.rel.grow hb, by rw [put_defers]; exact hr.defers⟩)
  show DnL _ (toL n e') _
  rw [he']
  exact put_dn (DnL.keep (.grow hb) _ _ hr.slots) hd'⟩
end
end Go.Proofs.YtekpmlfcmnlmiaaGreatDoor

namespace Go.Proofs.YtekpmlfcmnlmiaaGreatDoor
open Go.RowKit
set_option linter.unusedVariables false
set_option linter.unusedSimpArgs false

theorem below_or {w w' : World} {s : ByteArray} (h : w' = w ∨ w' = Lib.bytesWorld w 5 s) : Below w.heap.size w w' := by
  rcases h with rfl | rfl
  · exact Below.refl _ _
  · exact bytesWorld_below _ _ _
theorem parse_ok (s : ByteArray) (hs : s.size ≤ 140737488355328) (u : Nat) (h : Lib.parseUintB 64 (bs s) = .ok u) : XMeets Tryz.prog 81 [.v (.string s), .v (.int .i64 10), .v (.int .i64 64)] (.tu [.p (.v (.int .u64 (u : Int))) (nlv _), .p (.v .nilIface) (nlv _)]) := ⟨by kernel_rfl, fun C vals _ hd => by
  simp only [DnL, Dn] at hd
  obtain ⟨_, _, rfl, rfl, _, _, rfl, rfl, _, _, rfl, rfl, rfl⟩ := hd
  refine (Tryz.strconv_ParseUint_10_at64_ok s (by omega) u h C.w).mono ?_
  rintro e w' ⟨rfl, hb⟩
  refine ⟨_, .nilFunc, rfl, below_or hb, fun g hg => (by cases hg), ?_⟩
  simp only [XV.den, XV.denL, Dn]
  exact ⟨[_, _], rfl, DnL.cons (by simp [Dn]) (DnL.cons (by simp [Dn]) .nil)⟩⟩
theorem parse_range (s : ByteArray) (hs : s.size ≤ 140737488355328) (h : Lib.parseUintB 64 (bs s) = .range) : XMeetsE Tryz.prog 81 [.v (.string s), .v (.int .i64 10), .v (.int .i64 64)] (fun _ : TypeId × Value => True) (fun y => .tu [.p (.v (.int .u64 18446744073709551615)) (nlv _), .p (.v (.iface y.1 y.2)) (nlv _)]) := ⟨by kernel_rfl, fun C vals hg hd => by
  simp only [DnL, Dn] at hd
  obtain ⟨_, _, rfl, rfl, _, _, rfl, rfl, _, _, rfl, rfl, rfl⟩ := hd
  obtain ⟨_, ev, h1, h2⟩ := hg.ifc 6 (by kernel_rfl)
  refine (Tryz.strconv_ParseUint_10_at64_range s (by omega) h ev C.w h1 h2).mono ?_
  rintro e w' ⟨N, rfl, _, _, hb⟩
  refine ⟨(129, .pointer (some ⟨N, 0, none⟩)), _, .nilFunc, trivial, rfl, hb, fun g hg => (by cases hg), ?_⟩
  simp only [XV.den, XV.denL, Dn]
  exact ⟨[_, _], rfl, DnL.cons (by simp [Dn]) (DnL.cons (by simp [Dn]) .nil)⟩⟩
end Go.Proofs.YtekpmlfcmnlmiaaGreatDoor
