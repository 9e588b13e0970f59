/- How texts stand to one another, a table's place among tables: contracts of the library, plain law. No condition. -/
import Derived.Test.YtpgfhkbnngjegaaGreatDoorU14
import Derived.Test.YtpgfhkbnngjegaaGreatDoorT20
import Derived.Test.YtpgfhkbnngjegaaGreatDoorW7
import Derived.Test.YtpgfhkbnngjegaaGreatDoorTD
import Derived.Test.YtpgfhkbnngjegaaGreatDoorShelf
namespace Go.Proofs.YtpgfhkbnngjegaaGreatDoor
open Go.RowKit
set_option linter.unusedVariables false
set_option linter.unusedSimpArgs false

section
variable {P : Program} {B : Nat} {w0 : World} {gh : List Value} {σ : St} {Q : Exit → St → Prop} {ops : Array Oper} {o : Oper} {rest : List Oper}
theorem TL.ins {f : FuncId} {e0 : TypeId} {sz : Nat} {cl : Call} {fop : Operand} (hC : InsC P f e0 sz) (hE : entB P f = true) (hg : o.guard = none) (ho : o.op = .call cl) (hcl : cl.callee = .value fop) (hf' : tev σ.s fop = .fn (.func f) []) {i j k : Nat} {els els' : List (List TV)} {y : List TV}
    (ha : cl.args.toList.map (tev σ.s) = [.row i, .v (.int .i64 (k : Int)), .row j]) (hij : i ≠ j) (hi2 : hf σ.h i = .row e0 sz els) (hj2 : hf σ.h j = .row e0 sz [y]) (hk : k ≤ els.length) (hn : els.length ≤ 100000) (h1 : ∀ c ∈ els, c.all TV.one = true) (h2 : y.all TV.one = true)
    (he : els.take k ++ [y] ++ els.drop k = els') (hkp : kpLL (bar i) els' = els')
    (h : TL P B w0 gh ops rest ⟨match o.dst with | some d => (kpL (bar i) σ.s).set d (.row i) | none => kpL (bar i) σ.s, (σ.h.map (LB.kp (bar i))).set i (.row e0 sz els'), kpL (bar i) σ.g⟩ Q) : TL P B w0 gh ops (o :: rest) σ Q := fun ρ a w hr => by
  refine wpList_plain hg fun K0 hK0 => ?_
  have g1 := tev_dn hr.slots fop
  rw [hf'] at g1
  simp only [Dn, DnL] at g1
  obtain ⟨cv, g2, rfl⟩ := g1
  have g4 : DnL (cxOf B ρ (hf σ.h) w) (cl.args.toList.map (tev σ.s)) (cl.args.toList.map a.eval) := eval_list _ fun x _ => tev_dn hr.slots x
  rw [ha] at g4
  simp only [DnL, Dn] at g4
  obtain ⟨u0, us0, e2, ⟨_, rfl⟩, u1, us1, rfl, rfl, u2, us2, rfl, ⟨_, rfl⟩, rfl⟩ := g4
  obtain ⟨A, c, css, r1, r2, r3, r4⟩ := hr.rel.row i _ _ _ hi2
  obtain ⟨A2, c2, css2, s1, s2, s3, s4⟩ := hr.rel.row j _ _ _ hj2
  rw [show (cxOf B ρ (hf σ.h) w).ρ i = ρ i from rfl, show (cxOf B ρ (hf σ.h) w).ρ j = ρ j from rfl] at e2
  obtain ⟨vb, rfl⟩ : ∃ vb, A2 = some ⟨vb, 0, none⟩ := by
    rw [s1] at s2
    rcases s2.2 with ⟨hv, h0⟩ | ⟨g, cap, cur, hv, _⟩
    · simp at h0
    · injection hv with hv
      exact ⟨g, hv⟩
  obtain ⟨y0, rfl⟩ : ∃ y0, css2 = [y0] := by
    have := s4.len
    match css2, this with
    | [z], _ => exact ⟨z, rfl⟩
  have hvb : ∀ g, Value.ownBlock (.slice A els.length c) = some g → vb ≠ g := fun g hgg e => by
    subst e
    refine hij (hr.rel.sep i j vb (by show LB.here (hf σ.h i); rw [hi2]; trivial) (by show LB.here (hf σ.h j); rw [hj2]; trivial) ?_ ?_)
    · rw [r1]; cases A with
      | none => cases hgg
      | some ad => exact hgg
    · rw [s1]; rfl
  have R1 := r2
  have R2 := s2
  rw [r1] at R1
  rw [s1] at R2
  have hraw := hC B A els.length c k vb c2 css.flatten [y0].flatten w R1 (by simpa using R2) hvb hr.rel.size hk hn (elems_one hr.rel r4 h1) (elems_one hr.rel s4 (fun c hc => by rw [List.mem_singleton.1 hc]; exact h2))
  unfold Oper.wp
  rw [call_run ho hcl g2 hE]
  unfold Oper.upon
  have e3 : (cl.args.map a.eval ++ [].toArray) = #[.slice A els.length c, .int .i64 k, .slice (some ⟨vb, 0, none⟩) 1 c2] := by
    apply Array.ext'
    rw [r1, s1] at e2
    simpa using e2
  rw [e3]
  refine hraw.mono ?_
  rintro e' w' ⟨A', c', rfl, ho', hgr, hor⟩
  rw [flat_take k r3, flat_drop k r3, ← List.flatten_append, ← List.flatten_append] at ho'
  have hl' : els'.length = els.length + 1 := by rw [← he]; simp; omega
  have hd' : DnLL (cxOf B ρ (hf σ.h) w) els' (css.take k ++ [y0] ++ css.drop k) := by
    rw [← he]
    exact ((DnLL.take k r4).append s4).append (r4.drop k)
  have hr2 := RelS.renew hr hi2 r1 R1 (els' := els') (css' := css.take k ++ [y0] ++ css.drop k) (A' := A') (c' := c') (by rw [hl']; exact ho') hgr (by rw [hl']; exact hor) (fun z hz => by
    rcases List.mem_append.1 hz with hz | hz
    · rcases List.mem_append.1 hz with hz | hz
      · exact r3 z (List.mem_of_mem_take hz)
      · exact s3 z hz
    · exact r3 z (List.mem_of_mem_drop hz)) hd' o.dst
  rw [hl', hkp] at hr2
  exact hK0 _ _ (h _ _ _ hr2)
end
section
variable {P : Program} {B : Nat} {w0 : World} {T : Tab} {n : Nat} {e : Env} {h : List XLB} {gs : Frames} {K : KK}
/-- A value that does not speak of a local block. -/
def noI (i : Nat) : XV → Bool
  | .p _ _ => true
  | .any => true
  | .pin _ _ _ => true
  | .row j => !Nat.beq j i
  | .ptr j _ => !Nat.beq j i
  | .rp j _ _ _ => !Nat.beq j i
  | .z j _ _ => !Nat.beq j i
  | .win j _ _ => !Nat.beq j i
  | .fu _ [] => true
  | _ => false
theorem noI_ok {i : Nat} {v : XV} (h : noI i v = true) : kp (bar i) v.den = v.den := by
  rw [← kpX_den]
  congr 1
  cases v with
  | p t h => rfl
  | any => rfl
  | pin u t h => rfl
  | row j => simp only [noI, Bool.not_eq_true'] at h; simp [kpX, h]
  | ptr j off => simp only [noI, Bool.not_eq_true'] at h; simp [kpX, h]
  | rp j a b c => simp only [noI, Bool.not_eq_true'] at h; simp [kpX, h]
  | z j a b => simp only [noI, Bool.not_eq_true'] at h; simp [kpX, h]
  | win j a b => simp only [noI, Bool.not_eq_true'] at h; simp [kpX, h]
  | fu f vs => cases vs with
    | nil => rfl
    | cons _ _ => cases h
  | _ => cases h
/-- Operations that reckon out of slots alone, and do not speak of the row i. -/
def XPu (P : Program) (T : Tab) (n i : Nat) : List Oper → Env → (Env → Prop) → Prop
  | [], e, k => k e
  | o :: r, e, k => match o.guard with
    | some _ => False
    | none => match o.op.operands.toList.all fun x => noI i (xev n e x) with
      | false => False
      | true => XS P T n [] e o.op fun v new => match new with
        | some _ => False
        | none => match noI i v with
          | false => False
          | true => putK n e o.dst v fun e' => XPu P T n i r e' k
theorem XPu_ok (O : TabOk P T) {i : Nat} {K : List TV → Prop} : ∀ {l : List Oper} {e : Env} {k : Env → Prop}, XPu P T n i l e k → (∀ e, k e → K (toL n e)) → TPu P B w0 i l (toL n e) K
  | [], e, k, hh, hk => hk _ hh
  | o :: r, e, k, hh, hk => by
    unfold XPu at hh
    split at hh
    · exact hh.elim
    · rename_i hg
      split at hh
      · exact hh.elim
      · rename_i hop
        obtain ⟨v, new, hs, hh⟩ := XS_ok (B := B) (w0 := w0) O hh
        split at hh
        · exact hh.elim
        · split at hh
          · exact hh.elim
          · rename_i hv
            obtain ⟨e', he, hh⟩ := putK_ok hh
            refine ⟨v.den, hg, hs, fun x hx => ?_, noI_ok hv, ?_⟩
            · rw [← xev_den]
              exact noI_ok (List.all_eq_true.1 hop x hx)
            · have := XPu_ok O hh hk
              rw [he] at this
              exact this
/-- What an operation does that takes a local row and hands it back. -/
def RowOp (P : Program) (B : Nat) (w0 : World) (n : Nat) (e : Env) (h : List XLB) (o : Oper) (i da : Nat) (row : XLB) : Prop := ∀ (gh : List Value) (g : List TV) (sH : List TV), sH.length = n → (∀ y, y ∈ o.op.operands.toList → tev sH y = tev (toL n e) y) →
  TL P B w0 gh #[] [o] ⟨sH, h.map XLB.den, g⟩ (fun ex σ' => ex = .normal ∧ σ' = (⟨(kpL (bar i) sH).set da (.row i), ((h.map XLB.den).map (LB.kp (bar i))).set i row.den, kpL (bar i) g⟩ : St))
theorem RegG.wr {l : List Oper} (m k da i : Nat) {o : Oper} (hB : appB l m k da = true) (hon : l[m]? = some o) (hg : o.guard = none)
    (hx : XP P T n l (l.take m) e h fun e1 h1 => XPu P T n i ((l.drop (m + 1)).take k) e1 fun e2 => ∃ row : XLB, RowOp P B w0 n e2 h1 o i da row ∧ turnK (kpX i) e2 h1 gs fun e' h' gs' => setK h' i row fun h'' => putK n e' (some da) (.row i) fun e'' => XL P B w0 T n l (l.drop (m + 1 + k)) e'' h'' gs' K) : RegG P B w0 T n l e h gs K := .ta fun O gh Q hq => by
  refine TA.appG (σ := xst n e h gs) m k da hB hon (i := i) hg ?_
  refine XP_ok O hx fun e1 h1 hh1 => ?_
  refine XPu_ok O hh1 fun e2 hh2 => ?_
  obtain ⟨row, hr, hh⟩ := hh2
  refine ⟨row.den, fun sH hs ho => hr gh _ sH (by rw [hs]; exact toL_len n e2) ho, ?_⟩
  have hh := setK_ok (k := fun h'' => putK n _ (some da) (.row i) fun e'' => XL P B w0 T n l (l.drop (m + 1 + k)) e'' h'' _ K) (turnK_ok hh)
  obtain ⟨e'', he', hh⟩ := putK_ok hh
  have := XL_ok O l.toArray gh Q (by simpa using hh) hq
  have e4 : xst n e'' ((h1.map (mapB (kpX i))).set i row) (mapG (kpX i) gs) = ⟨(kpL (bar i) (toL n e2)).set da (.row i), ((h1.map XLB.den).map (LB.kp (bar i))).set i row.den, kpL (bar i) (xst n e h gs).g⟩ := by
    simp only [xst, he', toL_kp, List.map_set, hmap_kp, denG_kp, XV.den]
    rfl
  rw [e4] at this
  exact this
/-- The operations of a drawn region in another order. -/
theorem RegG.perm {l : List Oper} (pm : List Nat) (hp : permB pm l.length = true) (hx : RegG P B w0 T n (permL pm l) e h gs K) : RegG P B w0 T n l e h gs K := .ta fun O gh Q hq => TA.perm pm hp (regG_ta O hx hq)
theorem RowOp.ins {f : FuncId} {e0 : TypeId} {sz : Nat} (hC : InsC P f e0 sz) (hE : entB P f = true) {o : Oper} {x y z : Operand} {ts : Array TypeId} (hg : o.guard = none) (ho : o.op = .call { callee := .value (.func f), args := #[x, y, z], argTypes := ts }) {i j k da : Nat} {hpk : Nl (.v (.int .i64 (k : Int)))} {els els' : List (List TV)} {hpe : NlLL els} {c : List TV} {hpc : NlLL [c]}
    (hd : o.dst = some da) (hxi : xev n e x = .row i) (hyk : xev n e y = .p (.v (.int .i64 (k : Int))) hpk) (hzj : xev n e z = .row j) (hne : Nat.beq i j = false) (hi : hget h i = .row e0 sz els hpe) (hj : hget h j = .row e0 sz [c] hpc) (hk : k ≤ els.length) (hn : els.length ≤ 100000) (h1 : ∀ c ∈ els, c.all TV.one = true) (h2 : c.all TV.one = true)
    (he : els.take k ++ [c] ++ els.drop k = els') (hp' : NlLL els') : RowOp P B w0 n e h o i da (.row e0 sz els' hp') := fun gh g sH hs hop => by
  have hi2 : hf (h.map XLB.den) i = .row e0 sz els := by rw [← hget_den, hi]; rfl
  have hj2 : hf (h.map XLB.den) j = .row e0 sz [c] := by rw [← hget_den, hj]; rfl
  have ex := xev_den (n := n) (e := e) (x := x)
  have ey := xev_den (n := n) (e := e) (x := y)
  have ez := xev_den (n := n) (e := e) (x := z)
  rw [hxi] at ex
  rw [hyk] at ey
  rw [hzj] at ez
  refine TL.ins (σ := ⟨sH, h.map XLB.den, g⟩) hC hE hg ho rfl rfl (i := i) (j := j) (k := k) (els := els) (els' := els') (y := c) ?_ (fun e => by subst e; simp at hne) hi2 hj2 hk hn h1 h2 he (hp'.k _) ?_
  · have o1 := hop x (by simp [ho, Op.operands, Call.operands])
    have o2 := hop y (by simp [ho, Op.operands, Call.operands])
    have o3 := hop z (by simp [ho, Op.operands, Call.operands])
    simp only [List.map_cons, List.map_nil, o1, o2, o3, ← ex, ← ey, ← ez, XV.den]
  · rw [hd]
    exact TL.nil ⟨rfl, rfl⟩
end
end Go.Proofs.YtpgfhkbnngjegaaGreatDoor

namespace Go.Proofs.YtpgfhkbnngjegaaGreatDoor
open Go.RowKit
set_option linter.unusedVariables false
set_option linter.unusedSimpArgs false

theorem insC_tbl : InsC Tryz.prog 84 25 3 := ins_any_tbl
set_option maxHeartbeats 1600000 in
theorem clone_tbl : CloneC Tryz.prog 119 25 3 := ⟨by kernel_rfl, by omega, fun A m c xs w hs hm h1 => by
  have T0 : ElemTy Tryz.prog 48 25 (.agg #[.string ⟨#[]⟩, .slice none 0 0, .slice none 0 0]) 3 64 := ⟨Tryz.underlying48, by kernel_rfl, rfl, by omega, by omega⟩
  rcases A with _ | ad
  · have hq0 := hs.2.1 rfl
    subst hq0
    have HP := Lib.hid hs.empty
    have hnil := fun (w : World) => Lib.run_eql_slice_nil (P := Tryz.prog) w 48 25 (none) 0 c 0 0 Tryz.underlying48
    go_enter Tryz.func119, Tryz.ntmps119
    go_wp2
    go_ret
    exact ⟨none, 0, rfl, by rw [HP.out]; exact World.ownsRow_nil _ _ _ _, Below.refl _ _⟩
  · have hnil := fun (w : World) => Lib.run_eql_slice_nil (P := Tryz.prog) w 48 25 (some ad) m c 0 0 Tryz.underlying48
    go_enter Tryz.func119, Tryz.ntmps119
    go_wp2_with (at_builtin; refine Door.enter ?_)
    refine Door.leave (wl_append T0 (base := w.heap.size) (World.ownsRow_lit w #[] 0 (Nat.le_refl _) (by simp [maxLen]) (by simp)) (hs.alloc _) (Nat.zero_add _) (List.nil_append _) h1 (by omega) (by simp) rfl rfl rfl rfl ?_)
    intro A' c' w' h2 h3 h4 h5
    go_wp2
    go_ret
    exact ⟨A', c', rfl, h2, ((Below.refl _ w).alloc (Nat.le_refl _) _).trans h3⟩⟩

set_option maxHeartbeats 1600000 in
theorem clone_dfn : CloneC Tryz.prog 122 94 4 := ⟨by kernel_rfl, by omega, fun A m c xs w hs hm h1 => by
  have T0 : ElemTy Tryz.prog 22 94 (.agg #[.string ⟨#[]⟩, .int .i64 0, .bool false, .bool false]) 4 32 := ⟨Tryz.underlying22, by kernel_rfl, rfl, by omega, by omega⟩
  rcases A with _ | ad
  · have hq0 := hs.2.1 rfl
    subst hq0
    have HP := Lib.hid hs.empty
    have hnil := fun (w : World) => Lib.run_eql_slice_nil (P := Tryz.prog) w 22 94 (none) 0 c 0 0 Tryz.underlying22
    go_enter Tryz.func122, Tryz.ntmps122
    go_wp2
    go_ret
    exact ⟨none, 0, rfl, by rw [HP.out]; exact World.ownsRow_nil _ _ _ _, Below.refl _ _⟩
  · have hnil := fun (w : World) => Lib.run_eql_slice_nil (P := Tryz.prog) w 22 94 (some ad) m c 0 0 Tryz.underlying22
    go_enter Tryz.func122, Tryz.ntmps122
    go_wp2_with (at_builtin; refine Door.enter ?_)
    refine Door.leave (wl_append T0 (base := w.heap.size) (World.ownsRow_lit w #[] 0 (Nat.le_refl _) (by simp [maxLen]) (by simp)) (hs.alloc _) (Nat.zero_add _) (List.nil_append _) h1 (by omega) (by simp) rfl rfl rfl rfl ?_)
    intro A' c' w' h2 h3 h4 h5
    go_wp2
    go_ret
    exact ⟨A', c', rfl, h2, ((Below.refl _ w).alloc (Nat.le_refl _) _).trans h3⟩⟩

set_option maxHeartbeats 1600000 in
theorem clone_val : CloneC Tryz.prog 152 42 3 := ⟨by kernel_rfl, by omega, fun A m c xs w hs hm h1 => by
  have T0 : ElemTy Tryz.prog 38 42 (.agg #[.int .i64 0, .int .i64 0, .string ⟨#[]⟩]) 3 32 := ⟨Tryz.underlying38, by kernel_rfl, rfl, by omega, by omega⟩
  rcases A with _ | ad
  · have hq0 := hs.2.1 rfl
    subst hq0
    have HP := Lib.hid hs.empty
    have hnil := fun (w : World) => Lib.run_eql_slice_nil (P := Tryz.prog) w 38 42 (none) 0 c 0 0 Tryz.underlying38
    go_enter Tryz.func152, Tryz.ntmps152
    go_wp2
    go_ret
    exact ⟨none, 0, rfl, by rw [HP.out]; exact World.ownsRow_nil _ _ _ _, Below.refl _ _⟩
  · have hnil := fun (w : World) => Lib.run_eql_slice_nil (P := Tryz.prog) w 38 42 (some ad) m c 0 0 Tryz.underlying38
    go_enter Tryz.func152, Tryz.ntmps152
    go_wp2_with (at_builtin; refine Door.enter ?_)
    refine Door.leave (wl_append T0 (base := w.heap.size) (World.ownsRow_lit w #[] 0 (Nat.le_refl _) (by simp [maxLen]) (by simp)) (hs.alloc _) (Nat.zero_add _) (List.nil_append _) h1 (by omega) (by simp) rfl rfl rfl rfl ?_)
    intro A' c' w' h2 h3 h4 h5
    go_wp2
    go_ret
    exact ⟨A', c', rfl, h2, ((Below.refl _ w).alloc (Nat.le_refl _) _).trans h3⟩⟩

set_option maxHeartbeats 1600000 in
theorem clone_row : CloneC Tryz.prog 151 38 1 := ⟨by kernel_rfl, by omega, fun A m c xs w hs hm h1 => by
  have T0 : ElemTy Tryz.prog 23 38 (.slice none 0 0) 1 24 := ⟨Tryz.underlying23, by kernel_rfl, rfl, by omega, by omega⟩
  rcases A with _ | ad
  · have hq0 := hs.2.1 rfl
    subst hq0
    have HP := Lib.hid hs.empty
    have hnil := fun (w : World) => Lib.run_eql_slice_nil (P := Tryz.prog) w 23 38 (none) 0 c 0 0 Tryz.underlying23
    go_enter Tryz.func151, Tryz.ntmps151
    go_wp2
    go_ret
    exact ⟨none, 0, rfl, by rw [HP.out]; exact World.ownsRow_nil _ _ _ _, Below.refl _ _⟩
  · have hnil := fun (w : World) => Lib.run_eql_slice_nil (P := Tryz.prog) w 23 38 (some ad) m c 0 0 Tryz.underlying23
    go_enter Tryz.func151, Tryz.ntmps151
    go_wp2_with (at_builtin; refine Door.enter ?_)
    refine Door.leave (wl_append T0 (base := w.heap.size) (World.ownsRow_lit w #[] 0 (Nat.le_refl _) (by simp [maxLen]) (by simp)) (hs.alloc _) (Nat.zero_add _) (List.nil_append _) h1 (by omega) (by simp) rfl rfl rfl rfl ?_)
    intro A' c' w' h2 h3 h4 h5
    go_wp2
    go_ret
    exact ⟨A', c', rfl, h2, ((Below.refl _ w).alloc (Nat.le_refl _) _).trans h3⟩⟩
end Go.Proofs.YtpgfhkbnngjegaaGreatDoor

namespace Go.Proofs.YtpgfhkbnngjegaaGreatDoor
open Go.RowKit
set_option linter.unusedVariables false
set_option linter.unusedSimpArgs false
set_option maxRecDepth 20000

theorem cmpB_S : ∀ a b : List UInt8, Lib.compareBytes a b = cmpS a b
  | [], [] => by simp [Lib.compareBytes, cmpS, Op.bytesLess]
  | [], y :: b => by simp [Lib.compareBytes, cmpS, Op.bytesLess]
  | x :: a, [] => by simp [Lib.compareBytes, cmpS, Op.bytesLess]
  | x :: a, y :: b => by
    have ih := cmpB_S a b
    unfold Lib.compareBytes
    rw [ih]
    unfold cmpS
    simp only [Op.bytesLess]
    by_cases h1 : x < y
    · simp [h1]
    · by_cases h2 : y < x
      · have h3 : x ≠ y := fun e => by subst e; exact h1 h2
        simp [h1, h2, h3]
      · have h3 : x = y := by
          have h4 : ¬ x.toNat < y.toNat := h1
          have h5 : ¬ y.toNat < x.toNat := h2
          exact UInt8.toNat.inj (by omega)
        subst h3
        simp [h1]
theorem scmp_X (a b : ByteArray) : XMeets Tryz.prog 118 [.v (.string a), .v (.string b)] (.p (.v (.int .i64 (cmpS (bs a) (bs b)))) (nlv _)) := ⟨by kernel_rfl, fun C vals _ hd => by
  simp only [DnL, Dn] at hd
  obtain ⟨u, us, rfl, rfl, u2, us2, rfl, rfl, rfl⟩ := hd
  refine (Tryz.strings_Compare a b C.w).mono ?_
  rintro e w' ⟨rfl, hb⟩
  subst hb
  rw [show Lib.compareBytes a.data.toList b.data.toList = cmpS (bs a) (bs b) from cmpB_S _ _]
  exact res_v (Below.refl _ _)⟩
/-- Where a table is, or goes. -/
def nmAt (s : List Tbl) (k : Nat) : ByteArray := match s[k]? with
  | some t => t.n
  | none => ⟨#[]⟩
def fndF (s : List Tbl) (x : ByteArray) : Nat → Nat → Nat → Nat
  | 0, i, _ => i
  | f + 1, i, j => if i < j then (if ltS (nmAt s ((i + j) / 2)) x then fndF s x f ((i + j) / 2 + 1) j else fndF s x f i ((i + j) / 2)) else i
theorem fndF_fuel {s : List Tbl} {x : ByteArray} : ∀ (f g i j : Nat), j - i ≤ f → j - i ≤ g → fndF s x f i j = fndF s x g i j
  | 0, 0, i, j, _, _ => rfl
  | 0, g + 1, i, j, h, _ => by unfold fndF; rw [if_neg (by omega)]
  | f + 1, 0, i, j, _, h => by unfold fndF; rw [if_neg (by omega)]
  | f + 1, g + 1, i, j, h1, h2 => by
    unfold fndF
    split
    · split
      · exact fndF_fuel f g _ _ (by omega) (by omega)
      · exact fndF_fuel f g _ _ (by omega) (by omega)
    · rfl
def fndR (s : List Tbl) (x : ByteArray) (i j : Nat) : Nat := fndF s x (j - i) i j
def fndI (s : List Tbl) (x : ByteArray) : Nat := fndR s x 0 s.length
def fndB (s : List Tbl) (x : ByteArray) : Bool := decide (fndI s x < s.length) && bsEq (nmAt s (fndI s x)) x
theorem fndR_t {s : List Tbl} {x : ByteArray} {i j : Nat} (h : i < j) (hl : ltS (nmAt s ((i + j) / 2)) x = true) : fndR s x ((i + j) / 2 + 1) j = fndR s x i j := by
  unfold fndR
  obtain ⟨m, hm⟩ : ∃ m, j - i = m + 1 := ⟨j - i - 1, by omega⟩
  rw [hm]
  conv => rhs; unfold fndF
  rw [if_pos h, if_pos hl]
  exact fndF_fuel _ _ _ _ (by omega) (by omega)
theorem fndR_f {s : List Tbl} {x : ByteArray} {i j : Nat} (h : i < j) (hl : ltS (nmAt s ((i + j) / 2)) x = false) : fndR s x i ((i + j) / 2) = fndR s x i j := by
  unfold fndR
  obtain ⟨m, hm⟩ : ∃ m, j - i = m + 1 := ⟨j - i - 1, by omega⟩
  rw [hm]
  conv => rhs; unfold fndF
  rw [if_pos h, if_neg (by rw [hl]; simp)]
  exact fndF_fuel _ _ _ _ (by omega) (by omega)
theorem fndR_e {s : List Tbl} {x : ByteArray} {i j : Nat} (h : ¬ i < j) : fndR s x i j = i := by
  unfold fndR
  rw [show j - i = 0 by omega]
  rfl
theorem nmAt_of {s : List Tbl} {k : Nat} {t : Tbl} (h : s[k]? = some t) : nmAt s k = t.n := by simp [nmAt, h]
theorem ltS_0 {a b : ByteArray} : cmpS (bs a) (bs b) < 0 ↔ ltS a b = true := cmpS_lt
theorem fndR_le {s : List Tbl} {x : ByteArray} : ∀ (f i j : Nat), i ≤ j → i ≤ fndF s x f i j ∧ fndF s x f i j ≤ j
  | 0, i, j, h => by simp [fndF, h]
  | f + 1, i, j, h => by
    unfold fndF
    split
    · split
      · have := fndR_le (s := s) (x := x) f ((i + j) / 2 + 1) j (by omega); omega
      · have := fndR_le (s := s) (x := x) f i ((i + j) / 2) (by omega); omega
    · omega
theorem fndI_le (s : List Tbl) (x : ByteArray) : fndI s x ≤ s.length := (fndR_le _ _ _ (Nat.zero_le _)).2
end Go.Proofs.YtpgfhkbnngjegaaGreatDoor
