/- Numbers as texts, and texts joined. Condition: what the package-level variables hold. -/
import Derived.Test.YtekpmlfcmnlmiaaGreatDoorJB
import Derived.Test.YtekpmlfcmnlmiaaGreatDoorU17
import Derived.Lib.AppendIntMem
namespace Go.Proofs.YtekpmlfcmnlmiaaGreatDoor
open Go.RowKit
set_option linter.unusedVariables false
set_option linter.unusedSimpArgs false

/-- A number in digits. -/
def itoS (n : Int) : ByteArray := ⟨(Lib.itoa n).toArray⟩
theorem pow10_is {w : World} (h : GlB w.heap.size w) : Lib.TabIs Tryz.prog w "internal/strconv.uint64pow10" .u64 Lib.pow10Tab := by
  obtain ⟨_, ty, fr, h1⟩ := h.obj 1 _ rfl
  have hg : Tryz.prog.globalNamed "internal/strconv.uint64pow10" = some 1 := by kernel_rfl
  unfold Lib.TabIs World.var?
  rw [hg]
  simp [h1]
theorem format_X (n : Int) (h0 : -9223372036854775808 ≤ n) (h1 : n ≤ 9223372036854775807) : XMeets Tryz.prog 44 [.v (.int .i64 n), .v (.int .i64 10)] (.p (.v (.string (itoS n))) (nlv _)) := ⟨by kernel_rfl, fun C vals hg hd => by
  simp only [DnL, Dn] at hd
  obtain ⟨_, _, rfl, rfl, _, _, rfl, rfl, rfl⟩ := hd
  refine (Tryz.strconv_FormatInt_10 n h0 h1 C.w (pow10_is hg)).mono ?_
  rintro e w' ⟨rfl, k, os, rfl⟩
  exact res_v (Lib.below_grow _ _ (Nat.le_refl _) _ _)⟩
/-- Texts joined. -/
def joinS (l : List ByteArray) (sep : ByteArray) : ByteArray := ⟨(Lib.join (l.map (·.data.toList)) sep.data.toList).toArray⟩
section
variable {B : Nat} {w0 : World} {n : Nat} {e : Env} {h : List XLB} {gs : Frames}
/-- strings.Join of a local row. -/
theorem WCall.join {i : Nat} {e0 : TypeId} {l : List ByteArray} {hp : NlLL (l.map st1)} {sep : ByteArray} {hps : Nl (.v (.string sep))} {dst : Option Tmp} {k : KK} {u : ByteArray} (hu : joinS l sep = u) (hi : hget h i = .row e0 1 (l.map st1) hp) (hl : l.length ≤ 140737488355328) (hj : (Lib.join (l.map (·.data.toList)) sep.data.toList).length ≤ 140737488355328)
    (hk : putK n e dst (.p (.v (.string u)) (nlv _)) fun e' => k e' h gs) : WCall Tryz.prog B w0 23 [.row i, .p (.v (.string sep)) hps] n e h gs dst k := ⟨by
  intro gh Q ops rest o cl fop cvs hg ho hcl hf hvs hdst hK ρ a w hr
  subst hdst
  subst hu
  refine wpList_plain hg fun K0 hK0 => ?_
  have h1 := tev_dn hr.slots fop
  have hf' : tev (xst n e h gs).s fop = .fn (.func 23) (XV.denL cvs) := hf
  rw [hf'] at h1
  simp only [Dn] at h1
  obtain ⟨cv, h2, h3⟩ := h1
  have e1 : XV.denL [.row i, .p (.v (.string sep)) hps] = cl.args.toList.map (tev (toL n e)) ++ XV.denL cvs := by rw [hvs, denL_map (_ ++ _), List.map_append, ← denL_map, ← denL_map, evL_den]
  have h4 := (eval_list (C := cxOf B ρ (Go.Proofs.YtekpmlfcmnlmiaaGreatDoor.hf (xst n e h gs).h) w) (s := (xst n e h gs).s) (a := a) cl.args.toList fun x _ => tev_dn hr.slots x).append h3
  have e3 : cl.args.toList.map (tev (xst n e h gs).s) ++ XV.denL cvs = [.row i, .v (.string sep)] := e1.symm
  rw [e3] at h4
  obtain ⟨vals, hvals⟩ : ∃ vals, cl.args.toList.map a.eval ++ cv = vals := ⟨_, rfl⟩
  rw [hvals] at h4
  simp only [DnL, Dn] at h4
  obtain ⟨u1, us1, rfl, ⟨h5, h6⟩, u2, us2, rfl, rfl, rfl⟩ := h4
  have hi' : Go.Proofs.YtekpmlfcmnlmiaaGreatDoor.hf (xst n e h gs).h i = .row e0 1 (l.map st1) := by
    show Go.Proofs.YtekpmlfcmnlmiaaGreatDoor.hf (h.map XLB.den) i = _
    rw [← hget_den, hi]; rfl
  obtain ⟨A, c, css, r1, r2, r3, r4⟩ := hr.rel.row i _ _ _ hi'
  rw [dn_st1 r4] at r2
  rw [List.length_map] at r1 r2
  have e2 : (cl.args.map a.eval ++ cv.toArray) = (cl.args.toList.map a.eval ++ cv).toArray := by
    apply Array.ext'
    simp
  have hcall : Calls Tryz.prog 23 #[u1, .string sep] w fun e w' => e = .returned (.string (joinS l sep)) ∧ Below w.heap.size w w' := by
    rw [show u1 = ρ i from h6, r1]
    rw [r1] at r2
    rcases r2.2 with ⟨hv, hn⟩ | ⟨g, cap, cur, hv, hb, hg2, hcap, _⟩
    · have hl0 := List.eq_nil_of_length_eq_zero hn
      subst hl0
      refine (Tryz.strings_Join_none A c sep w).mono ?_
      rintro e w' ⟨rfl, rfl⟩
      exact ⟨rfl, Below.refl _ _⟩
    · injection hv with hA _ hc
      subst hA hc
      exact Tryz.strings_Join g 0 c l sep w (fun j x hx => by
        have := r2.cells (g := g) rfl j (.string x) (by rw [List.getElem?_map, hx]; rfl)
        have e0 : (⟨g, 0, none⟩ : Addr).add j = ⟨g, 0 + j, none⟩ := by unfold Addr.add; split <;> simp_all
        rw [e0] at this; exact this) (Array.getElem?_eq_some_iff.1 hg2).1 hl hcap hj
  unfold Oper.wp
  rw [call_run ho hcl h2 (by kernel_rfl)]
  unfold Oper.upon
  rw [e2, hvals]
  refine hcall.mono ?_
  rintro _ w' ⟨rfl, hb⟩
  obtain ⟨e', he', hk2⟩ := putK_ok hk
  refine hK0 _ _ (hK _ _ _ hk2 ρ _ _ ⟨?_, DnL.keep (.grow hb) _ _ hr.ghost, hr.rel.grow hb, by rw [put_defers]; exact hr.defers⟩)
  show DnL _ (toL n e') _
  rw [he']
  exact put_dn (DnL.keep (.grow hb) _ _ hr.slots) (by simp [XV.den, Dn])⟩
end
end Go.Proofs.YtekpmlfcmnlmiaaGreatDoor
