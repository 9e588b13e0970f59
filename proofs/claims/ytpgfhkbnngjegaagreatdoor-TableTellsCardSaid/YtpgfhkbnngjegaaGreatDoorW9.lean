/- Copies of tables, a table's place. No condition. -/
import Derived.Test.YtpgfhkbnngjegaaGreatDoorU14
import Derived.Test.YtpgfhkbnngjegaaGreatDoorT20
import Derived.Test.YtpgfhkbnngjegaaGreatDoorW7
import Derived.Test.YtpgfhkbnngjegaaGreatDoorTD
import Derived.Test.YtpgfhkbnngjegaaGreatDoorShelf
namespace Go.Proofs.YtpgfhkbnngjegaaGreatDoor
open Go.RowKit
set_option linter.unusedVariables false
set_option linter.unusedSimpArgs false
section
variable {P : Program} {B : Nat} {w0 : World} {gh : List Value} {σ : St} {Q : Exit→St→Prop} {ops : Array Oper} {o : Oper} {rest : List Oper}
theorem TL.ins {f : FuncId} {e0 : TypeId} {sz : Nat} {cl : Call} {fop : Operand} (hC : InsC P f e0 sz) (hE : entB P f = true) (hg : o.guard = none) (ho : o.op = .call cl) (hcl : cl.callee = .value fop) (hf' : tev σ.s fop = .fn (.func f) []) {i j k : Nat} {els els' : List (List TV)} {y : List TV}
  (ha : cl.args.toList.map (tev σ.s) = [.row i,.v (.int .i64 (k : Int)),.row j]) (hij : i ≠ j) (hi2 : hf σ.h i = .row e0 sz els) (hj2 : hf σ.h j = .row e0 sz [y]) (hk : k ≤ els.length) (hn : els.length ≤ 100000) (h1 : ∀ c ∈ els,c.all TV.one = true) (h2 : y.all TV.one = true)
  (he : els.take k ++ [y] ++ els.drop k = els') (hkp : kpLL (bar i) els' = els')
  (h : TL P B w0 gh ops rest ⟨match o.dst with | some d=>(kpL (bar i) σ.s).set d (.row i) | none=>kpL (bar i) σ.s,(σ.h.map (LB.kp (bar i))).set i (.row e0 sz els'),kpL (bar i) σ.g⟩ Q) : TL P B w0 gh ops (o :: rest) σ Q:=fun ρ a w hr=>by
 refine wpList_plain hg fun K0 hK0=>?_
 have g1:=tev_dn hr.slots fop
 rw [hf'] at g1
 simp only [Dn,DnL] at g1
 obtain ⟨cv,g2,rfl⟩:=g1
 have g4 : DnL (cxOf B ρ (hf σ.h) w) (cl.args.toList.map (tev σ.s)) (cl.args.toList.map a.eval):=eval_list _ fun x _=>tev_dn hr.slots x
 rw [ha] at g4
 simp only [DnL,Dn] at g4
 obtain ⟨u0,us0,e2,⟨_,rfl⟩,u1,us1,rfl,rfl,u2,us2,rfl,⟨_,rfl⟩,rfl⟩:=g4
 obtain ⟨A,c,css,r1,r2,r3,r4⟩:=hr.rel.row i _ _ _ hi2
 obtain ⟨A2,c2,css2,s1,s2,s3,s4⟩:=hr.rel.row j _ _ _ hj2
 rw [show (cxOf B ρ (hf σ.h) w).ρ i = ρ i from rfl,show (cxOf B ρ (hf σ.h) w).ρ j = ρ j from rfl] at e2
 obtain ⟨vb,rfl⟩ : ∃ vb,A2 = some ⟨vb,0,none⟩:=by
  rw [s1] at s2
  rcases s2.2 with ⟨hv,h0⟩ | ⟨g,cap,cur,hv,_⟩
  ·simp at h0
  ·injection hv with hv
   exact ⟨g,hv⟩
 obtain ⟨y0,rfl⟩ : ∃ y0,css2 = [y0]:=by
  have:=s4.len
  match css2,this with
  | [z],_=>exact ⟨z,rfl⟩
 have hvb : ∀ g,Value.ownBlock (.slice A els.length c) = some g→vb ≠ g:=fun g hgg e=>by
  subst e
  refine hij (hr.rel.sep i j vb (by show LB.here (hf σ.h i); rw [hi2]; trivial) (by show LB.here (hf σ.h j); rw [hj2]; trivial) ?_ ?_)
  ·rw [r1]; cases A with
   | none=>cases hgg
   | some ad=>exact hgg
  ·rw [s1]; rfl
 have R1:=r2
 have R2:=s2
 rw [r1] at R1
 rw [s1] at R2
 have hraw:=hC B A els.length c k vb c2 css.flatten [y0].flatten w R1 (by simpa using R2) hvb hr.rel.size hk hn (elems_one hr.rel r4 h1) (elems_one hr.rel s4 (fun c hc=>by rw [List.mem_singleton.1 hc]; exact h2))
 unfold Oper.wp
 rw [call_run ho hcl g2 hE]
 unfold Oper.upon
 have e3 : (cl.args.map a.eval ++ [].toArray) = #[.slice A els.length c,.int .i64 k,.slice (some ⟨vb,0,none⟩) 1 c2]:=by
  apply Array.ext'
  rw [r1,s1] at e2
  simpa using e2
 rw [e3]
 refine hraw.mono ?_
 rintro e' w' ⟨A',c',rfl,ho',hgr,hor⟩
 rw [flat_take k r3,flat_drop k r3,← List.flatten_append,← List.flatten_append] at ho'
 have hl' : els'.length = els.length + 1:=by rw [← he]; simp; omega
 have hd' : DnLL (cxOf B ρ (hf σ.h) w) els' (css.take k ++ [y0] ++ css.drop k):=by
  rw [← he]
  exact ((DnLL.take k r4).append s4).append (r4.drop k)
 have hr2:=RelS.renew hr hi2 r1 R1 (els':=els') (css':=css.take k ++ [y0] ++ css.drop k) (A':=A') (c':=c') (by rw [hl']; exact ho') hgr (by rw [hl']; exact hor) (fun z hz=>by
  rcases List.mem_append.1 hz with hz | hz
  ·rcases List.mem_append.1 hz with hz | hz
   ·exact r3 z (List.mem_of_mem_take hz)
   ·exact s3 z hz
  ·exact r3 z (List.mem_of_mem_drop hz)) hd' o.dst
 rw [hl',hkp] at hr2
 exact hK0 _ _ (h _ _ _ hr2)
end
section
variable {P : Program} {B : Nat} {w0 : World} {T : Tab} {n : Nat} {e : Env} {h : List XLB} {gs : Frames} {K : KK}
def noI (i : Nat) : XV→Bool
 | .p _ _=>true
 | .any=>true
 | .pin _ _ _=>true
 | .row j=>!Nat.beq j i
 | .ptr j _=>!Nat.beq j i
 | .rp j _ _ _=>!Nat.beq j i
 | .z j _ _=>!Nat.beq j i
 | .win j _ _=>!Nat.beq j i
 | .fu _ []=>true
 | _=>false
theorem noI_ok {i : Nat} {v : XV} (h : noI i v = true) : kp (bar i) v.den = v.den:=by
 rw [← kpX_den]
 congr 1
 cases v with
 | p t h=>rfl
 | any=>rfl
 | pin u t h=>rfl
 | row j=>simp only [noI,Bool.not_eq_true'] at h; simp [kpX,h]
 | ptr j off=>simp only [noI,Bool.not_eq_true'] at h; simp [kpX,h]
 | rp j a b c=>simp only [noI,Bool.not_eq_true'] at h; simp [kpX,h]
 | z j a b=>simp only [noI,Bool.not_eq_true'] at h; simp [kpX,h]
 | win j a b=>simp only [noI,Bool.not_eq_true'] at h; simp [kpX,h]
 | fu f vs=>cases vs with
  | nil=>rfl
  | cons _ _=>cases h
 | _=>cases h
def XPu (P : Program) (T : Tab) (n i : Nat) : List Oper→Env→(Env→Prop)→Prop
 | [],e,k=>k e
 | o :: r,e,k=>match o.guard with
  | some _=>False
  | none=>match o.op.operands.toList.all fun x=>noI i (xev n e x) with
   | false=>False
   | true=>XS P T n [] e o.op fun v new=>match new with
    | some _=>False
    | none=>match noI i v with
     | false=>False
     | true=>putK n e o.dst v fun e'=>XPu P T n i r e' k
theorem XPu_ok (O : TabOk P T) {i : Nat} {K : List TV→Prop} : ∀ {l : List Oper} {e : Env} {k : Env→Prop},XPu P T n i l e k→(∀ e,k e→K (toL n e))→TPu P B w0 i l (toL n e) K
 | [],e,k,hh,hk=>hk _ hh
 | o :: r,e,k,hh,hk=>by
  unfold XPu at hh
  split at hh
  ·exact hh.elim
  ·rename_i hg
   split at hh
   ·exact hh.elim
   ·rename_i hop
    obtain ⟨v,new,hs,hh⟩:=XS_ok (B:=B) (w0:=w0) O hh
    split at hh
    ·exact hh.elim
    ·split at hh
     ·exact hh.elim
     ·rename_i hv
      obtain ⟨e',he,hh⟩:=putK_ok hh
      refine ⟨v.den,hg,hs,fun x hx=>?_,noI_ok hv,?_⟩
      ·rw [← xev_den]
       exact noI_ok (List.all_eq_true.1 hop x hx)
      ·have:=XPu_ok O hh hk
       rw [he] at this
       exact this
def RowOp (P : Program) (B : Nat) (w0 : World) (n : Nat) (e : Env) (h : List XLB) (o : Oper) (i da : Nat) (row : XLB) : Prop:=∀ (gh : List Value) (g : List TV) (sH : List TV),sH.length = n→(∀ y,y ∈ o.op.operands.toList→tev sH y = tev (toL n e) y) →
 TL P B w0 gh #[] [o] ⟨sH,h.map XLB.den,g⟩ (fun ex σ'=>ex = .normal∧σ' = (⟨(kpL (bar i) sH).set da (.row i),((h.map XLB.den).map (LB.kp (bar i))).set i row.den,kpL (bar i) g⟩ : St))
theorem RegG.wr {l : List Oper} (m k da i : Nat) {o : Oper} (hB : appB l m k da = true) (hon : l[m]? = some o) (hg : o.guard = none)
  (hx : XP P T n l (l.take m) e h fun e1 h1=>XPu P T n i ((l.drop (m + 1)).take k) e1 fun e2=>∃ row : XLB,RowOp P B w0 n e2 h1 o i da row∧turnK (kpX i) e2 h1 gs fun e' h' gs'=>setK h' i row fun h''=>putK n e' (some da) (.row i) fun e''=>XL P B w0 T n l (l.drop (m + 1 + k)) e'' h'' gs' K) : RegG P B w0 T n l e h gs K:=.ta fun O gh Q hq=>by
 refine TA.appG (σ:=xst n e h gs) m k da hB hon (i:=i) hg ?_
 refine XP_ok O hx fun e1 h1 hh1=>?_
 refine XPu_ok O hh1 fun e2 hh2=>?_
 obtain ⟨row,hr,hh⟩:=hh2
 refine ⟨row.den,fun sH hs ho=>hr gh _ sH (by rw [hs]; exact toL_len n e2) ho,?_⟩
 have hh:=setK_ok (k:=fun h''=>putK n _ (some da) (.row i) fun e''=>XL P B w0 T n l (l.drop (m + 1 + k)) e'' h'' _ K) (turnK_ok hh)
 obtain ⟨e'',he',hh⟩:=putK_ok hh
 have:=XL_ok O l.toArray gh Q (by simpa using hh) hq
 have e4 : xst n e'' ((h1.map (mapB (kpX i))).set i row) (mapG (kpX i) gs) = ⟨(kpL (bar i) (toL n e2)).set da (.row i),((h1.map XLB.den).map (LB.kp (bar i))).set i row.den,kpL (bar i) (xst n e h gs).g⟩:=by
  simp only [xst,he',toL_kp,List.map_set,hmap_kp,denG_kp,XV.den]
  rfl
 rw [e4] at this
 exact this
theorem RegG.perm {l : List Oper} (pm : List Nat) (hp : permB pm l.length = true) (hx : RegG P B w0 T n (permL pm l) e h gs K) : RegG P B w0 T n l e h gs K:=.ta fun O gh Q hq=>TA.perm pm hp (regG_ta O hx hq)
theorem RowOp.ins {f : FuncId} {e0 : TypeId} {sz : Nat} (hC : InsC P f e0 sz) (hE : entB P f = true) {o : Oper} {x y z : Operand} {ts : Array TypeId} (hg : o.guard = none) (ho : o.op = .call { callee:=.value (.func f),args:=#[x,y,z],argTypes:=ts }) {i j k da : Nat} {hpk : Nl (.v (.int .i64 (k : Int)))} {els els' : List (List TV)} {hpe : NlLL els} {c : List TV} {hpc : NlLL [c]}
  (hd : o.dst = some da) (hxi : xev n e x = .row i) (hyk : xev n e y = .p (.v (.int .i64 (k : Int))) hpk) (hzj : xev n e z = .row j) (hne : Nat.beq i j = false) (hi : hget h i = .row e0 sz els hpe) (hj : hget h j = .row e0 sz [c] hpc) (hk : k ≤ els.length) (hn : els.length ≤ 100000) (h1 : ∀ c ∈ els,c.all TV.one = true) (h2 : c.all TV.one = true)
  (he : els.take k ++ [c] ++ els.drop k = els') (hp' : NlLL els') : RowOp P B w0 n e h o i da (.row e0 sz els' hp'):=fun gh g sH hs hop=>by
 have hi2 : hf (h.map XLB.den) i = .row e0 sz els:=by rw [← hget_den,hi]; rfl
 have hj2 : hf (h.map XLB.den) j = .row e0 sz [c]:=by rw [← hget_den,hj]; rfl
 have ex:=xev_den (n:=n) (e:=e) (x:=x)
 have ey:=xev_den (n:=n) (e:=e) (x:=y)
 have ez:=xev_den (n:=n) (e:=e) (x:=z)
 rw [hxi] at ex
 rw [hyk] at ey
 rw [hzj] at ez
 refine TL.ins (σ:=⟨sH,h.map XLB.den,g⟩) hC hE hg ho rfl rfl (i:=i) (j:=j) (k:=k) (els:=els) (els':=els') (y:=c) ?_ (fun e=>by subst e; simp at hne) hi2 hj2 hk hn h1 h2 he (hp'.k _) ?_
 ·have o1:=hop x (by simp [ho,Op.operands,Call.operands])
  have o2:=hop y (by simp [ho,Op.operands,Call.operands])
  have o3:=hop z (by simp [ho,Op.operands,Call.operands])
  simp only [List.map_cons,List.map_nil,o1,o2,o3,← ex,← ey,← ez,XV.den]
 ·rw [hd]
  exact TL.nil ⟨rfl,rfl⟩
end
end Go.Proofs.YtpgfhkbnngjegaaGreatDoor

namespace Go.Proofs.YtpgfhkbnngjegaaGreatDoor
open Go.RowKit
set_option linter.unusedVariables false
set_option linter.unusedSimpArgs false
theorem insC_tbl : InsC Tryz.prog 84 25 3:=ins_any_tbl
set_option maxHeartbeats 1600000 in
theorem clone_tbl : CloneC Tryz.prog 119 25 3:=⟨by kernel_rfl,by omega,fun A m c xs w hs hm h1=>by
 have T0 : ElemTy Tryz.prog 48 25 (.agg #[.string ⟨#[]⟩,.slice none 0 0,.slice none 0 0]) 3 64:=⟨Tryz.underlying48,by kernel_rfl,rfl,by omega,by omega⟩
 rcases A with _ | ad
 ·have hq0:=hs.2.1 rfl
  subst hq0
  have HP:=Lib.hid hs.empty
  have hnil:=fun (w : World)=>Lib.run_eql_slice_nil (P:=Tryz.prog) w 48 25 (none) 0 c 0 0 Tryz.underlying48
  go_enter Tryz.func119,Tryz.ntmps119
  go_wp2
  go_ret
  exact ⟨none,0,rfl,by rw [HP.out]; exact World.ownsRow_nil _ _ _ _,Below.refl _ _⟩
 ·have hnil:=fun (w : World)=>Lib.run_eql_slice_nil (P:=Tryz.prog) w 48 25 (some ad) m c 0 0 Tryz.underlying48
  go_enter Tryz.func119,Tryz.ntmps119
  go_wp2_with (at_builtin; refine Door.enter ?_)
  refine Door.leave (wl_append T0 (base:=w.heap.size) (World.ownsRow_lit w #[] 0 (Nat.le_refl _) (by simp [maxLen]) (by simp)) (hs.alloc _) (Nat.zero_add _) (List.nil_append _) h1 (by omega) (by simp) rfl rfl rfl rfl ?_)
  intro A' c' w' h2 h3 h4 h5
  go_wp2
  go_ret
  exact ⟨A',c',rfl,h2,((Below.refl _ w).alloc (Nat.le_refl _) _).trans h3⟩⟩
set_option maxHeartbeats 1600000 in
theorem clone_dfn : CloneC Tryz.prog 122 94 4:=⟨by kernel_rfl,by omega,fun A m c xs w hs hm h1=>by
 have T0 : ElemTy Tryz.prog 22 94 (.agg #[.string ⟨#[]⟩,.int .i64 0,.bool false,.bool false]) 4 32:=⟨Tryz.underlying22,by kernel_rfl,rfl,by omega,by omega⟩
 rcases A with _ | ad
 ·have hq0:=hs.2.1 rfl
  subst hq0
  have HP:=Lib.hid hs.empty
  have hnil:=fun (w : World)=>Lib.run_eql_slice_nil (P:=Tryz.prog) w 22 94 (none) 0 c 0 0 Tryz.underlying22
  go_enter Tryz.func122,Tryz.ntmps122
  go_wp2
  go_ret
  exact ⟨none,0,rfl,by rw [HP.out]; exact World.ownsRow_nil _ _ _ _,Below.refl _ _⟩
 ·have hnil:=fun (w : World)=>Lib.run_eql_slice_nil (P:=Tryz.prog) w 22 94 (some ad) m c 0 0 Tryz.underlying22
  go_enter Tryz.func122,Tryz.ntmps122
  go_wp2_with (at_builtin; refine Door.enter ?_)
  refine Door.leave (wl_append T0 (base:=w.heap.size) (World.ownsRow_lit w #[] 0 (Nat.le_refl _) (by simp [maxLen]) (by simp)) (hs.alloc _) (Nat.zero_add _) (List.nil_append _) h1 (by omega) (by simp) rfl rfl rfl rfl ?_)
  intro A' c' w' h2 h3 h4 h5
  go_wp2
  go_ret
  exact ⟨A',c',rfl,h2,((Below.refl _ w).alloc (Nat.le_refl _) _).trans h3⟩⟩
set_option maxHeartbeats 1600000 in
theorem clone_val : CloneC Tryz.prog 152 42 3:=⟨by kernel_rfl,by omega,fun A m c xs w hs hm h1=>by
 have T0 : ElemTy Tryz.prog 38 42 (.agg #[.int .i64 0,.int .i64 0,.string ⟨#[]⟩]) 3 32:=⟨Tryz.underlying38,by kernel_rfl,rfl,by omega,by omega⟩
 rcases A with _ | ad
 ·have hq0:=hs.2.1 rfl
  subst hq0
  have HP:=Lib.hid hs.empty
  have hnil:=fun (w : World)=>Lib.run_eql_slice_nil (P:=Tryz.prog) w 38 42 (none) 0 c 0 0 Tryz.underlying38
  go_enter Tryz.func152,Tryz.ntmps152
  go_wp2
  go_ret
  exact ⟨none,0,rfl,by rw [HP.out]; exact World.ownsRow_nil _ _ _ _,Below.refl _ _⟩
 ·have hnil:=fun (w : World)=>Lib.run_eql_slice_nil (P:=Tryz.prog) w 38 42 (some ad) m c 0 0 Tryz.underlying38
  go_enter Tryz.func152,Tryz.ntmps152
  go_wp2_with (at_builtin; refine Door.enter ?_)
  refine Door.leave (wl_append T0 (base:=w.heap.size) (World.ownsRow_lit w #[] 0 (Nat.le_refl _) (by simp [maxLen]) (by simp)) (hs.alloc _) (Nat.zero_add _) (List.nil_append _) h1 (by omega) (by simp) rfl rfl rfl rfl ?_)
  intro A' c' w' h2 h3 h4 h5
  go_wp2
  go_ret
  exact ⟨A',c',rfl,h2,((Below.refl _ w).alloc (Nat.le_refl _) _).trans h3⟩⟩
set_option maxHeartbeats 1600000 in
theorem clone_row : CloneC Tryz.prog 151 38 1:=⟨by kernel_rfl,by omega,fun A m c xs w hs hm h1=>by
 have T0 : ElemTy Tryz.prog 23 38 (.slice none 0 0) 1 24:=⟨Tryz.underlying23,by kernel_rfl,rfl,by omega,by omega⟩
 rcases A with _ | ad
 ·have hq0:=hs.2.1 rfl
  subst hq0
  have HP:=Lib.hid hs.empty
  have hnil:=fun (w : World)=>Lib.run_eql_slice_nil (P:=Tryz.prog) w 23 38 (none) 0 c 0 0 Tryz.underlying23
  go_enter Tryz.func151,Tryz.ntmps151
  go_wp2
  go_ret
  exact ⟨none,0,rfl,by rw [HP.out]; exact World.ownsRow_nil _ _ _ _,Below.refl _ _⟩
 ·have hnil:=fun (w : World)=>Lib.run_eql_slice_nil (P:=Tryz.prog) w 23 38 (some ad) m c 0 0 Tryz.underlying23
  go_enter Tryz.func151,Tryz.ntmps151
  go_wp2_with (at_builtin; refine Door.enter ?_)
  refine Door.leave (wl_append T0 (base:=w.heap.size) (World.ownsRow_lit w #[] 0 (Nat.le_refl _) (by simp [maxLen]) (by simp)) (hs.alloc _) (Nat.zero_add _) (List.nil_append _) h1 (by omega) (by simp) rfl rfl rfl rfl ?_)
  intro A' c' w' h2 h3 h4 h5
  go_wp2
  go_ret
  exact ⟨A',c',rfl,h2,((Below.refl _ w).alloc (Nat.le_refl _) _).trans h3⟩⟩
end Go.Proofs.YtpgfhkbnngjegaaGreatDoor

namespace Go.Proofs.YtpgfhkbnngjegaaGreatDoor
open Go.RowKit
set_option linter.unusedVariables false
set_option linter.unusedSimpArgs false
set_option maxRecDepth 20000
theorem cmpB_S : ∀ a b : List UInt8,Lib.compareBytes a b = cmpS a b
 | [],[]=>by simp [Lib.compareBytes,cmpS,Op.bytesLess]
 | [],y :: b=>by simp [Lib.compareBytes,cmpS,Op.bytesLess]
 | x :: a,[]=>by simp [Lib.compareBytes,cmpS,Op.bytesLess]
 | x :: a,y :: b=>by
  have ih:=cmpB_S a b
  unfold Lib.compareBytes
  rw [ih]
  unfold cmpS
  simp only [Op.bytesLess]
  by_cases h1 : x < y
  ·simp [h1]
  ·by_cases h2 : y < x
   ·have h3 : x ≠ y:=fun e=>by subst e; exact h1 h2
    simp [h1,h2,h3]
   ·have h3 : x = y:=by
     have h4 : ¬ x.toNat < y.toNat:=h1
     have h5 : ¬ y.toNat < x.toNat:=h2
     exact UInt8.toNat.inj (by omega)
    subst h3
    simp [h1]
theorem scmp_X (a b : ByteArray) : XMeets Tryz.prog 118 [.v (.string a),.v (.string b)] (.p (.v (.int .i64 (cmpS (bs a) (bs b)))) (nlv _)):=⟨by kernel_rfl,fun C vals _ hd=>by
 simp only [DnL,Dn] at hd
 obtain ⟨u,us,rfl,rfl,u2,us2,rfl,rfl,rfl⟩:=hd
 refine (Tryz.strings_Compare a b C.w).mono ?_
 rintro e w' ⟨rfl,hb⟩
 subst hb
 rw [show Lib.compareBytes a.data.toList b.data.toList = cmpS (bs a) (bs b) from cmpB_S _ _]
 exact res_v (Below.refl _ _)⟩
def nmAt (s : List Tbl) (k : Nat) : ByteArray:=match s[k]? with
 | some t=>t.n
 | none=>⟨#[]⟩
def fndF (s : List Tbl) (x : ByteArray) : Nat→Nat→Nat→Nat
 | 0,i,_=>i
 | f + 1,i,j=>if i < j then (if ltS (nmAt s ((i + j) / 2)) x then fndF s x f ((i + j) / 2 + 1) j else fndF s x f i ((i + j) / 2)) else i
theorem fndF_fuel {s : List Tbl} {x : ByteArray} : ∀ (f g i j : Nat),j - i ≤ f→j - i ≤ g→fndF s x f i j = fndF s x g i j
 | 0,0,i,j,_,_=>rfl
 | 0,g + 1,i,j,h,_=>by unfold fndF; rw [if_neg (by omega)]
 | f + 1,0,i,j,_,h=>by unfold fndF; rw [if_neg (by omega)]
 | f + 1,g + 1,i,j,h1,h2=>by
  unfold fndF
  split
  ·split
   ·exact fndF_fuel f g _ _ (by omega) (by omega)
   ·exact fndF_fuel f g _ _ (by omega) (by omega)
  ·rfl
def fndR (s : List Tbl) (x : ByteArray) (i j : Nat) : Nat:=fndF s x (j - i) i j
def fndI (s : List Tbl) (x : ByteArray) : Nat:=fndR s x 0 s.length
def fndB (s : List Tbl) (x : ByteArray) : Bool:=decide (fndI s x < s.length) && bsEq (nmAt s (fndI s x)) x
theorem fndR_t {s : List Tbl} {x : ByteArray} {i j : Nat} (h : i < j) (hl : ltS (nmAt s ((i + j) / 2)) x = true) : fndR s x ((i + j) / 2 + 1) j = fndR s x i j:=by
 unfold fndR
 obtain ⟨m,hm⟩ : ∃ m,j - i = m + 1:=⟨j - i - 1,by omega⟩
 rw [hm]
 conv=>rhs; unfold fndF
 rw [if_pos h,if_pos hl]
 exact fndF_fuel _ _ _ _ (by omega) (by omega)
theorem fndR_f {s : List Tbl} {x : ByteArray} {i j : Nat} (h : i < j) (hl : ltS (nmAt s ((i + j) / 2)) x = false) : fndR s x i ((i + j) / 2) = fndR s x i j:=by
 unfold fndR
 obtain ⟨m,hm⟩ : ∃ m,j - i = m + 1:=⟨j - i - 1,by omega⟩
 rw [hm]
 conv=>rhs; unfold fndF
 rw [if_pos h,if_neg (by rw [hl]; simp)]
 exact fndF_fuel _ _ _ _ (by omega) (by omega)
theorem fndR_e {s : List Tbl} {x : ByteArray} {i j : Nat} (h : ¬ i < j) : fndR s x i j = i:=by
 unfold fndR
 rw [show j - i = 0 by omega]
 rfl
theorem nmAt_of {s : List Tbl} {k : Nat} {t : Tbl} (h : s[k]? = some t) : nmAt s k = t.n:=by simp [nmAt,h]
theorem ltS_0 {a b : ByteArray} : cmpS (bs a) (bs b) < 0↔ltS a b = true:=cmpS_lt
theorem fndR_le {s : List Tbl} {x : ByteArray} : ∀ (f i j : Nat),i ≤ j→i ≤ fndF s x f i j∧fndF s x f i j ≤ j
 | 0,i,j,h=>by simp [fndF,h]
 | f + 1,i,j,h=>by
  unfold fndF
  split
  ·split
   ·have:=fndR_le (s:=s) (x:=x) f ((i + j) / 2 + 1) j (by omega); omega
   ·have:=fndR_le (s:=s) (x:=x) f i ((i + j) / 2) (by omega); omega
  ·omega
theorem fndI_le (s : List Tbl) (x : ByteArray) : fndI s x ≤ s.length:=(fndR_le _ _ _ (Nat.zero_le _)).2
end Go.Proofs.YtpgfhkbnngjegaaGreatDoor

namespace Go.Proofs.YtpgfhkbnngjegaaGreatDoor
open Go.RowKit
set_option linter.unusedVariables false
set_option linter.unusedSimpArgs false
theorem qw90 {p : Prop} (h : p:=by
 refine ⟨?_,?_,?_⟩
 ·refine leEnv_app (by kernel_rfl) (by kernel_rfl) ?_
  repeat ((conv=>whnf); first | exact True.intro | refine ⟨.rfl,?_⟩ | refine ⟨.any,?_⟩ | refine ⟨.nil,?_⟩ | refine ⟨.int (by first | rfl | omega | (simp only [wrs]; omega)),?_⟩ | refine ⟨.tv (by first | rfl | (simp only [List.length_map]; done) | (rw [hw,wz.1 _ (by omega) (by omega)]; exact congrArg (fun z=>TV.v (Value.int IntKind.i64 z)) (by omega)) | (rw [hw]; done)),?_⟩)
 ·repeat (first | exact LeVs.nil | ((conv=>whnf); first | exact True.intro | exact .none | exact .ext | exact .row rfl | refine .cells ?_ | refine ⟨_,_,rfl,.rfl,?_⟩ | refine ⟨_,_,rfl,.any,?_⟩ | refine ⟨_,_,rfl,.nil,?_⟩ | refine ⟨_,_,rfl,.int (by first | rfl | omega | (simp only [wrs]; omega)),?_⟩ | refine ⟨_,_,rfl,.tv (by first | rfl | (simp only [List.length_map]; done) | (rw [hw,wz.1 _ (by omega) (by omega)]; exact congrArg (fun z=>TV.v (Value.int IntKind.i64 z)) (by omega)) | (rw [hw]; done)),?_⟩ | refine ⟨?_,?_⟩))
  done
 ·exact LeFr.same (by kernel_rfl)) : p:=h
theorem qw91 {p : Prop} (h : p:=by
 refine leEnv_app (by kernel_rfl) (by kernel_rfl) ?_
 repeat ((conv=>whnf); first | exact True.intro | refine ⟨.rfl,?_⟩ | refine ⟨.any,?_⟩ | refine ⟨.nil,?_⟩ | refine ⟨.int (by first | rfl | omega | (simp only [wrs]; omega)),?_⟩)) : p:=h
theorem qw92 {p : Prop} (h : p:=by
 conv=>whnf
 refine FinG.mk none ?_ zqR
 simp only [outs,zqL,fr_by1,fr_rw,fr_tb,fr_dc,fr_vl]
 simp_all [thrN]) : p:=h
theorem qw93 {p : Prop} (h : p:=by
 refine ⟨?_,?_,?_⟩
 ·exact qw91
 ·repeat (first | exact LeVs.nil | ((conv=>whnf); first | exact True.intro | exact .none | exact .ext | exact .row rfl | refine .cells ?_ | refine ⟨_,_,rfl,.rfl,?_⟩ | refine ⟨_,_,rfl,.any,?_⟩ | refine ⟨_,_,rfl,.nil,?_⟩ | refine ⟨_,_,rfl,.int (by first | rfl | omega | (simp only [wrs]; omega)),?_⟩ | refine ⟨?_,?_⟩))
  done
 ·exact LeFr.nil) : p:=h
theorem qw94 {p : Prop} (h : p:=by
 simp only [outs,zqL,fr_by1,fr_rw,fr_tb,fr_dc,fr_vl]
 simp; done) : p:=h
set_option maxRecDepth 20000
/-- Rows of which the first are in memory of their own. -/
def mixR (l : List (List Val)) (k : Nat) : List (List TV):=(l.take k).map (rwC true) ++ (l.drop k).map (rwC false)
theorem nl_mix (l : List (List Val)) (k : Nat) : NlLL (mixR l k):=(nl_rw _ _).append (nl_rw _ _)
theorem mix_e {l : List (List Val)} {k : Nat} (h : l.length ≤ k) : mixR l k = l.map (rwC true):=by
  unfold mixR
  rw [List.take_of_length_le h,List.drop_eq_nil_of_le h]
  simp
theorem mix_e2 {l : List (List Val)} {k : Nat} (h1 : k ≤ l.length) (h : (l.length : Int) ≤ k) : mixR l k = l.map (rwC true):=mix_e (by omega)
theorem mix_len {l : List (List Val)} {k : Nat} (h : k ≤ l.length) : (mixR l k).length = l.length:=by simp [mixR]; omega
theorem mix_at {l : List (List Val)} {k : Nat} {r : List Val} (h : l[k]? = some r) : (mixR l k)[k]? = some (rwC false r):=by
  obtain ⟨hk,rfl⟩:=List.getElem?_eq_some_iff.1 h
  unfold mixR
  rw [List.getElem?_append_right (by simp; omega)]
  simp only [List.length_map,List.length_take,Nat.min_eq_left (Nat.le_of_lt hk),Nat.sub_self]
  simp [hk]
theorem mix_set {l : List (List Val)} {k : Nat} {r : List Val} (h : l[k]? = some r) : (mixR l k).set k (rwC true r) = mixR l (k + 1):=by
  obtain ⟨hk,rfl⟩:=List.getElem?_eq_some_iff.1 h
  unfold mixR
  rw [List.set_append_right _ _ (by simp; omega)]
  simp only [List.length_map,List.length_take,Nat.min_eq_left (Nat.le_of_lt hk),Nat.sub_self]
  rw [List.drop_eq_getElem_cons hk,List.take_succ_eq_append_getElem hk,List.map_append,List.map_cons,List.set_cons_zero]
  simp
/-- Tables of which the first are in memory of their own. -/
def mixT (l : List Tbl) (k : Nat) : List (List TV):=(l.take k).map (tbC true true true) ++ (l.drop k).map (tbC false false false)
theorem nl_mixT (l : List Tbl) (k : Nat) : NlLL (mixT l k):=(nl_tb _ _ _ _).append (nl_tb _ _ _ _)
theorem mixT_0 (l : List Tbl) : mixT l 0 = l.map (tbC false false false):=by simp [mixT]
theorem mixT_e2 {l : List Tbl} {k : Nat} (h1 : k ≤ l.length) (h : (l.length : Int) ≤ k) : mixT l k = l.map (tbC true true true):=by
  have h : l.length ≤ k:=by omega
  unfold mixT
  rw [List.take_of_length_le h,List.drop_eq_nil_of_le h]
  simp
theorem mixT_len {l : List Tbl} {k : Nat} (h : k ≤ l.length) : (mixT l k).length = l.length:=by simp [mixT]; omega
theorem mixT_at {l : List Tbl} {k : Nat} {r : Tbl} (h : l[k]? = some r) : (mixT l k)[k]? = some (tbC false false false r):=by
  obtain ⟨hk,rfl⟩:=List.getElem?_eq_some_iff.1 h
  unfold mixT
  rw [List.getElem?_append_right (by simp; omega)]
  simp only [List.length_map,List.length_take,Nat.min_eq_left (Nat.le_of_lt hk),Nat.sub_self]
  simp [hk]
theorem mixT_set {l : List Tbl} {k : Nat} {r : Tbl} (h : l[k]? = some r) : (mixT l k).set k (tbC true true true r) = mixT l (k + 1):=by
  obtain ⟨hk,rfl⟩:=List.getElem?_eq_some_iff.1 h
  unfold mixT
  rw [List.set_append_right _ _ (by simp; omega)]
  simp only [List.length_map,List.length_take,Nat.min_eq_left (Nat.le_of_lt hk),Nat.sub_self]
  rw [List.drop_eq_getElem_cons hk,List.take_succ_eq_append_getElem hk,List.map_append,List.map_cons,List.set_cons_zero]
  simp
set_option maxRecDepth 20000 in
theorem copied_T (b b2 : Bool) (l : List (List Val)) (hn : l.length ≤ 100000) (hv : ∀ r ∈ l,r.length ≤ 100000) : XMeets Tryz.prog 123 [.sl b (l.map (rwC b2))] (.ow 38 1 (l.map (rwC true)) (nl_rw _ _)):=by
 refine XMeets.of_X tabX_ok (avs:=[.p (.sl false (l.map (rwC false))) (nl_rw _ _).sl]) [(0,.p (.sl false (l.map (rwC false))) (nl_rw _ _).sl)] (by kernel_rfl) Tryz.func123 rfl (by simp [PuL,Pu,tbT,stT,tbC,rwC,vlC,dfC,pu_vl,pu_dc,pu_rw,pu_tb]) (by simp only [untagL,untag,tbT,stT,tbC,rwC,vlC,dfC,untag_vl,untag_dc,untag_rw,untag_tb]; rfl) rfl rfl ?_
 intro B w0
 conv=>whnf
 refine .ct ?_
 conv=>whnf
 refine .cl (els:=l.map (rwC false)) (nl_rw _ _) clone_row rfl (rw_len _ _) (rw_one _ _) (by simp only [List.length_map]; omega) ?_
 conv=>whnf
 refine XT.loop tabX_ok (Y:=Nat) [0,3,5,6,8,9,10,11,12,13,14,15,16,17,18,19] (fun k=>[(8,.p (.v (.int .i64 (k))) (nlv _)),(0,.row 0)]) (fun k=>[(0,.row 38 1 (mixR l k) (nl_mix _ _))]) (fun k=>k ≤ l.length) (fun k=>l.length - k) 0 (Nat.zero_le _) ?_ ?_
 ·exact qw93
 ·rintro k hk
  have hml:=mix_len hk
  conv=>whnf
  refine bS (fun hc1=>?_) (fun hc1=>?_)
  ·try simp only [bls] at hc1
   conv=>whnf
   refine ⟨_,rfl,?_⟩
   conv=>whnf
   refine ⟨by omega,?_⟩
   conv=>whnf
   obtain ⟨r1,hr1⟩ : ∃ x,l[k]? = some x:=⟨_,List.getElem?_eq_getElem (by omega)⟩; refine IdxG.mk (j:=k) (c:=rwC false r1) (mix_at hr1) rfl ?_
   conv=>whnf
   refine .ct ?_
   conv=>whnf
   refine .cl (els:=r1.map vlC) (nl_vl _) clone_val rfl (vl_len _) (vl_one _) (by have:=hv _ (List.mem_of_getElem? hr1); simp only [List.length_map]; omega) ?_
   conv=>whnf
   refine ⟨_,rfl,?_⟩
   conv=>whnf
   refine ⟨by omega,?_⟩
   conv=>whnf
   refine IdxG.mk (j:=k) (c:=rwC false r1) (mix_at hr1) rfl ?_
   conv=>whnf
   refine ⟨rfl,?_⟩
   conv=>whnf
   refine ⟨(k + 1),by omega,by omega,?_⟩
   refine ⟨?_,?_,?_⟩
   ·exact qw91
   ·repeat (first | exact LeVs.nil | ((conv=>whnf); first | exact True.intro | exact .none | exact .ext | exact .row rfl | exact .row ((mix_set hr1)) | refine .cells ?_ | refine ⟨_,_,rfl,.rfl,?_⟩ | refine ⟨_,_,rfl,.any,?_⟩ | refine ⟨_,_,rfl,.nil,?_⟩ | refine ⟨_,_,rfl,.int (by first | rfl | omega | (simp only [wrs]; omega)),?_⟩ | refine ⟨?_,?_⟩))
    done
   ·exact LeFr.nil
  ·try simp only [bls] at hc1
   conv=>whnf
   refine FinG.mk (some 0) ?_ (by rintro _ ⟨⟩; trivial)
   simp only [outs,zqL,fr_by1,fr_rw,fr_tb,fr_dc,fr_vl]
   rw [mix_e2 hk (by omega)]
set_option maxRecDepth 20000 in
theorem own_T (b b2 b3 : Bool) (t : Tbl) (ht : t.In) : XMeets Tryz.prog 85 [tbT b b2 b3 t] (.ag [.p (.v (.string (t.n))) (nlv _),.p (.sl true (t.c.map dfC)) (nl_dc _).sl,.ow 38 1 (t.r.map (rwC true)) (nl_rw _ _)]):=by
 refine XMeets.of_X tabX_ok (avs:=[.ag [.p (.v (.string (t.n))) (nlv _),.p (.sl false (t.c.map dfC)) (nl_dc _).sl,.p (.sl false (t.r.map (rwC false))) (nl_rw _ _).sl]]) [(0,.ag [.p (.v (.string (t.n))) (nlv _),.p (.sl false (t.c.map dfC)) (nl_dc _).sl,.p (.sl false (t.r.map (rwC false))) (nl_rw _ _).sl])] (by kernel_rfl) Tryz.func85 rfl (by simp [PuL,Pu,tbT,stT,tbC,rwC,vlC,dfC,pu_vl,pu_dc,pu_rw,pu_tb]) (by simp only [untagL,untag,tbT,stT,tbC,rwC,vlC,dfC,untag_vl,untag_dc,untag_rw,untag_tb]; rfl) rfl rfl ?_
 intro B w0
 conv=>whnf
 refine RegG.par 7 (by kernel_rfl) ?_
 conv=>whnf
 refine .cl (els:=t.c.map dfC) (nl_dc _) clone_dfn rfl (dc_len _) (dc_one _) (by have:=ht.cn; simp only [List.length_map]; omega) ?_
 conv=>whnf
 refine CallG.mk (copied_T _ _ _ ht.rn (fun r hr=>(ht.r r hr).1)) rfl ?_
 conv=>whnf
 refine FinG.mk (some 3) ?_ (by rintro _ ⟨⟩; trivial)
 exact qw94
set_option maxRecDepth 20000 in
theorem own_Z (b b2 b3 : Bool) (t : Tbl) (ht : t.In) : XMeets Tryz.prog 85 [tbT b b2 b3 t] (.ag [.p (.v (.string (t.n))) (nlv _),.p (.sl true (t.c.map dfC)) (nl_dc _).sl,.p (.sl true (t.r.map (rwC true))) (nl_rw _ _).sl]):=by
 refine XMeets.of_X tabX_ok (avs:=[.ag [.p (.v (.string (t.n))) (nlv _),.p (.sl false (t.c.map dfC)) (nl_dc _).sl,.p (.sl false (t.r.map (rwC false))) (nl_rw _ _).sl]]) [(0,.ag [.p (.v (.string (t.n))) (nlv _),.p (.sl false (t.c.map dfC)) (nl_dc _).sl,.p (.sl false (t.r.map (rwC false))) (nl_rw _ _).sl])] (by kernel_rfl) Tryz.func85 rfl (by simp [PuL,Pu,tbT,stT,tbC,rwC,vlC,dfC,pu_vl,pu_dc,pu_rw,pu_tb]) (by simp only [untagL,untag,tbT,stT,tbC,rwC,vlC,dfC,untag_vl,untag_dc,untag_rw,untag_tb]; rfl) rfl rfl ?_
 intro B w0
 conv=>whnf
 refine RegG.par 7 (by kernel_rfl) ?_
 conv=>whnf
 refine .cl (els:=t.c.map dfC) (nl_dc _) clone_dfn rfl (dc_len _) (dc_one _) (by have:=ht.cn; simp only [List.length_map]; omega) ?_
 conv=>whnf
 refine CallG.mk (copied_T _ _ _ ht.rn (fun r hr=>(ht.r r hr).1)) rfl ?_
 conv=>whnf
 refine FinG.mk none ?_ zqR
 exact qw94
set_option maxRecDepth 20000 in
theorem owned_T (b b1 b2 b3 : Bool) (s : List Tbl) (hs : ∀ t ∈ s,t.In) (hn : s.length ≤ 100000) : XMeets Tryz.prog 83 [stT b b1 b2 b3 s] (.ag [.ow 25 3 (s.map (tbC true true true)) (nl_tb _ _ _ _)]):=by
 refine XMeets.of_X tabX_ok (avs:=[.ag [.p (.sl false (s.map (tbC false false false))) (nl_tb _ _ _ _).sl]]) [(0,.ag [.p (.sl false (s.map (tbC false false false))) (nl_tb _ _ _ _).sl])] (by kernel_rfl) Tryz.func83 rfl (by simp [PuL,Pu,tbT,stT,tbC,rwC,vlC,dfC,pu_vl,pu_dc,pu_rw,pu_tb]) (by simp only [untagL,untag,tbT,stT,tbC,rwC,vlC,dfC,untag_vl,untag_dc,untag_rw,untag_tb]; rfl) rfl rfl ?_
 intro B w0
 conv=>whnf
 refine .ct ?_
 conv=>whnf
 refine .cl (els:=s.map (tbC false false false)) (nl_tb _ _ _ _) clone_tbl rfl (tb_len _ _ _ _) (tb_one _ _ _ _) (by simp only [List.length_map]; omega) ?_
 conv=>whnf
 refine XT.loop tabX_ok (Y:=Nat) [3,6,9,11,12,13,14,15,16,17,18,19,20,21,22,23,24] (fun k=>[(11,.p (.v (.int .i64 (k))) (nlv _))]) (fun k=>[(2,.row 25 3 (mixT s k) (nl_mixT _ _))]) (fun k=>k ≤ s.length) (fun k=>s.length - k) 0 (Nat.zero_le _) ?_ ?_
 ·exact qw93
 ·rintro k hk
  have hml:=mixT_len hk
  conv=>whnf
  refine bS (fun hc1=>?_) (fun hc1=>?_)
  ·try simp only [bls] at hc1
   conv=>whnf
   refine RegG.par 10 (by kernel_rfl) ?_
   conv=>whnf
   refine ⟨_,rfl,?_⟩
   conv=>whnf
   refine ⟨by omega,?_⟩
   conv=>whnf
   obtain ⟨t1,ht1⟩ : ∃ x,s[k]? = some x:=⟨_,List.getElem?_eq_getElem (by omega)⟩; have hin1:=hs _ (List.mem_of_getElem? ht1); refine IdxG.mk (j:=k) (c:=tbC false false false t1) (mixT_at ht1) rfl ?_
   conv=>whnf
   refine CallG.mk (own_T _ _ _ _ (by assumption)) rfl ?_
   conv=>whnf
   refine ⟨_,rfl,?_⟩
   conv=>whnf
   refine ⟨by omega,?_⟩
   conv=>whnf
   refine IdxG.mk (j:=k) (c:=tbC false false false t1) (mixT_at ht1) rfl ?_
   conv=>whnf
   refine ⟨rfl,?_⟩
   conv=>whnf
   refine ⟨(k + 1),by omega,by omega,?_⟩
   refine ⟨?_,?_,?_⟩
   ·exact qw91
   ·repeat (first | exact LeVs.nil | ((conv=>whnf); first | exact True.intro | exact .none | exact .ext | exact .row rfl | exact .row ((mixT_set ht1)) | refine .cells ?_ | refine ⟨_,_,rfl,.rfl,?_⟩ | refine ⟨_,_,rfl,.any,?_⟩ | refine ⟨_,_,rfl,.nil,?_⟩ | refine ⟨_,_,rfl,.int (by first | rfl | omega | (simp only [wrs]; omega)),?_⟩ | refine ⟨?_,?_⟩))
    done
   ·exact LeFr.nil
  ·try simp only [bls] at hc1
   conv=>whnf
   refine FinG.mk (some 2) ?_ (by rintro _ ⟨⟩; trivial)
   simp only [outs,zqL,fr_by1,fr_rw,fr_tb,fr_dc,fr_vl]
   rw [mixT_e2 hk (by omega)]
set_option maxRecDepth 20000 in
theorem find1_T (b b2 b3 : Bool) (t : Tbl) (x : ByteArray) : XMeets Tryz.prog 117 [tbT b b2 b3 t,.v (.string x)] (.p (.v (.int .i64 (cmpS (bs t.n) (bs x)))) (nlv _)):=by
 refine XMeets.of_X tabX_ok (avs:=[.ag [.p (.v (.string (t.n))) (nlv _),.p (.sl false (t.c.map dfC)) (nl_dc _).sl,.p (.sl false (t.r.map (rwC false))) (nl_rw _ _).sl],.p (.v (.string x)) (nlv _)]) [(0,.ag [.p (.v (.string (t.n))) (nlv _),.p (.sl false (t.c.map dfC)) (nl_dc _).sl,.p (.sl false (t.r.map (rwC false))) (nl_rw _ _).sl]),(1,.p (.v (.string x)) (nlv _))] (by kernel_rfl) Tryz.func117 rfl (by simp [PuL,Pu,tbT,stT,tbC,rwC,vlC,dfC,pu_vl,pu_dc,pu_rw,pu_tb]) (by simp only [untagL,untag,tbT,stT,tbC,rwC,vlC,dfC,untag_vl,untag_dc,untag_rw,untag_tb]; rfl) rfl rfl ?_
 intro B w0
 conv=>whnf
 refine .ct ?_
 conv=>whnf
 refine CallG.mk (scmp_X _ _) rfl ?_
 conv=>whnf
 refine FinG.mk none ?_ zqR
 simp only [outs,zqL,fr_by1,fr_rw,fr_tb,fr_dc,fr_vl]
theorem half_w {i j : Nat} (h : i + j ≤ 200000) : IntKind.i64.wrap ((IntKind.u64.wrap ((i : Int) + j)).fdiv (2 ^ min (Int.toNat 1) IntKind.u64.bits)) = (((i + j) / 2 : Nat) : Int):=by
  rw [show IntKind.u64.wrap ((i : Int) + j) = (i : Int) + j from wz.2.1 _ (by omega) (by omega),show (2 : Int) ^ min (Int.toNat 1) IntKind.u64.bits = 2 from by decide,Int.fdiv_eq_ediv_of_nonneg _ (by omega),show ((i : Int) + j) / 2 = (((i + j) / 2 : Nat) : Int) by omega]
  exact wz.1 _ (by omega) (by omega)
theorem fndB_t {s : List Tbl} {x : ByteArray} {t : Tbl} (h : s[fndI s x]? = some t) (h2 : cmpS (bs t.n) (bs x) = 0) : fndB s x = true:=by
  unfold fndB
  rw [decide_eq_true (List.getElem?_eq_some_iff.1 h).1,nmAt_of h,Bool.true_and,bsEq_t]
  exact cmpS_0.1 h2
theorem fndB_f {s : List Tbl} {x : ByteArray} {t : Tbl} (h : s[fndI s x]? = some t) (h2 : ¬ cmpS (bs t.n) (bs x) = 0) : fndB s x = false:=by
  unfold fndB
  rw [nmAt_of h,show bsEq t.n x = false by rw [bsEq_f]; exact fun e=>h2 (cmpS_0.2 e),Bool.and_false]
theorem fndB_d {s : List Tbl} {x : ByteArray} {t : Tbl} (h : s[fndI s x]? = some t) : decide (cmpS (bs t.n) (bs x) = 0) = fndB s x:=by
  by_cases h2 : cmpS (bs t.n) (bs x) = 0
  · rw [fndB_t h h2,decide_eq_true h2]
  · rw [fndB_f h h2,decide_eq_false h2]
theorem fndB_e {s : List Tbl} {x : ByteArray} (h : (s.length : Int) ≤ fndI s x) : fndB s x = false:=by
  unfold fndB
  rw [decide_eq_false (by omega),Bool.false_and]
set_option maxRecDepth 20000 in
theorem find_T (b b1 b2 b3 : Bool) (s : List Tbl) (x : ByteArray) (hs : ∀ t ∈ s,t.In) (hn : s.length ≤ 100000) : XMeets Tryz.prog 82 [stT b b1 b2 b3 s,.v (.string x)] (.tu [.p (.v (.int .i64 (fndI s x))) (nlv _),.p (.v (.bool (fndB s x))) (nlv _)]):=by
 refine XMeets.of_X tabX_ok (avs:=[.ag [.p (.sl false (s.map (tbC false false false))) (nl_tb _ _ _ _).sl],.p (.v (.string x)) (nlv _)]) [(0,.ag [.p (.sl false (s.map (tbC false false false))) (nl_tb _ _ _ _).sl]),(1,.p (.v (.string x)) (nlv _))] (by kernel_rfl) Tryz.func82 rfl (by simp [PuL,Pu,tbT,stT,tbC,rwC,vlC,dfC,pu_vl,pu_dc,pu_rw,pu_tb]) (by simp only [untagL,untag,tbT,stT,tbC,rwC,vlC,dfC,untag_vl,untag_dc,untag_rw,untag_tb]; rfl) rfl rfl ?_
 intro B w0
 conv=>whnf
 refine .inl ?_
 conv=>whnf
 refine InlG.mk (by kernel_rfl) Tryz.func116 rfl (Nat.le_of_ble_eq_true rfl) (XT.of tabX_ok ?_)
 conv=>whnf
 refine XT.loop tabX_ok (Y:=Nat × Nat) [9,10,11,15,16,17,18,19,20,21,22,23,24,25,26,27,28,29,30,31,32,33,34] (fun (i,j)=>[(9,.p (.v (.int .i64 (i))) (nlv _)),(10,.p (.v (.int .i64 (j))) (nlv _))]) (fun (i,j)=>[]) (fun (i,j)=>i ≤ j∧j ≤ s.length∧fndR s x i j = fndI s x) (fun (i,j)=>j - i) (0,s.length) ⟨Nat.zero_le _,Nat.le_refl _,rfl⟩ ?_ ?_
 ·exact qw90
 ·rintro ⟨i,j⟩ ⟨hij,hj,hR⟩
  conv=>whnf
  refine bS (fun hc1=>?_) (fun hc1=>?_)
  ·try simp only [bls] at hc1
   conv=>whnf
   rw [show IntKind.i64.wrap ((↑i : Int) + (↑j : Int)) = ((↑i : Int) + (↑j : Int)) from wz.1 _ (by omega) (by omega)]
   have hw:=half_w (i:=i) (j:=j) (by omega); refine IdxG.map (l:=s) ((i + j) / 2) hw (by first | omega | (simp only [List.length_map] at *; omega)) ?_; intro t1 ht1 hnt1
   conv=>whnf
   refine ⟨rfl,?_⟩
   conv=>whnf
   refine .ct ?_
   conv=>whnf
   refine CallG.mk (find1_T _ _ _ _ _) rfl ?_
   conv=>whnf
   refine bS (fun hc2=>?_) (fun hc2=>?_)
   ·try simp only [bls] at hc2
    conv=>whnf
    refine ⟨((i + j) / 2 + 1,j),⟨by omega,by omega,(fndR_t (by omega) (by rw [nmAt_of ht1]; exact ltS_0.1 (by assumption))).trans hR⟩,(by show j - ((i + j) / 2 + 1) < j - i; omega),?_⟩
    exact qw90
   ·try simp only [bls] at hc2
    conv=>whnf
    refine ⟨(i,(i + j) / 2),⟨by omega,by omega,(fndR_f (by omega) (by rw [nmAt_of ht1]; exact eq_false_of_ne_true fun h9=>by have:=ltS_0.2 h9; omega)).trans hR⟩,(by show (i + j) / 2 - i < j - i; omega),?_⟩
    exact qw90
  ·try simp only [bls] at hc1
   conv=>whnf
   refine bS (fun hc3=>?_) (fun hc3=>?_)
   ·try simp only [bls] at hc3
    conv=>whnf
    refine bT zqS ?_
    conv=>whnf
    refine bT zqS ?_
    conv=>whnf
    refine bT zqS ?_
    conv=>whnf
    have hie : i = fndI s x:=(fndR_e (by omega)).symm.trans hR; refine IdxG.map (l:=s) i rfl (by first | omega | (simp only [List.length_map] at *; omega)) ?_; intro t1 ht1 hnt1; rw [hie] at ht1
    conv=>whnf
    refine ⟨rfl,?_⟩
    conv=>whnf
    refine bT zqS ?_
    conv=>whnf
    refine bT zqS ?_
    conv=>whnf
    refine bT zqS ?_
    conv=>whnf
    refine .ct ?_
    conv=>whnf
    refine CallG.mk (find1_T _ _ _ _ _) rfl ?_
    conv=>whnf
    refine bT zqS ?_
    conv=>whnf
    refine bT zqS ?_
    conv=>whnf
    refine ⟨.inr rfl,?_⟩
    conv=>whnf
    refine FinG.mk none ?_ zqR
    simp only [outs,zqL,fr_by1,fr_rw,fr_tb,fr_dc,fr_vl]
    exact ⟨by rw [hie],by rw [fndB_d ht1]⟩
   ·try simp only [bls] at hc3
    conv=>whnf
    refine bF zqS ?_
    conv=>whnf
    refine bF zqS ?_
    conv=>whnf
    refine bF zqS ?_
    conv=>whnf
    refine bF zqS ?_
    conv=>whnf
    refine bF zqS ?_
    conv=>whnf
    refine bF zqS ?_
    conv=>whnf
    refine bF zqS ?_
    conv=>whnf
    refine bF zqS ?_
    conv=>whnf
    refine ⟨.inr rfl,?_⟩
    conv=>whnf
    refine FinG.mk none ?_ zqR
    simp only [outs,zqL,fr_by1,fr_rw,fr_tb,fr_dc,fr_vl]
    have hie : i = fndI s x:=(fndR_e (by omega)).symm.trans hR
    exact ⟨by rw [hie],by rw [fndB_e (by omega)]⟩
def thrN (s : List Tbl) (x : ByteArray) : Int × Int:=if stoB s = true then (if fndB s x = true then (fndI s x,0) else (0,4)) else (0,220)
set_option maxRecDepth 20000 in
theorem there_T (b b1 b2 b3 : Bool) (s : List Tbl) (x : ByteArray) (hs : ∀ t ∈ s,t.In) (hn : s.length ≤ 100000) : XMeets Tryz.prog 86 [stT b b1 b2 b3 s,.v (.string x)] (.tu [.p (.v (.int .i64 ((thrN s x).1))) (nlv _),.p (.v (.int .i64 ((thrN s x).2))) (nlv _)]):=by
 refine XMeets.of_X tabX_ok (avs:=[.ag [.p (.sl false (s.map (tbC false false false))) (nl_tb _ _ _ _).sl],.p (.v (.string x)) (nlv _)]) [(0,.ag [.p (.sl false (s.map (tbC false false false))) (nl_tb _ _ _ _).sl]),(1,.p (.v (.string x)) (nlv _))] (by kernel_rfl) Tryz.func86 rfl (by simp [PuL,Pu,tbT,stT,tbC,rwC,vlC,dfC,pu_vl,pu_dc,pu_rw,pu_tb]) (by simp only [untagL,untag,tbT,stT,tbC,rwC,vlC,dfC,untag_vl,untag_dc,untag_rw,untag_tb]; rfl) rfl rfl ?_
 intro B w0
 conv=>whnf
 refine .ct ?_
 conv=>whnf
 refine CallG.mk (check_T _ _ _ _ _ hs hn) rfl ?_
 conv=>whnf
 refine bS (fun hc1=>?_) (fun hc1=>?_)
 ·try simp only [bls] at hc1
  exact qw92
 ·try simp only [bls] at hc1
  conv=>whnf
  refine .ct ?_
  conv=>whnf
  refine CallG.mk (find_T _ _ _ _ _ _ hs (by first | assumption | omega)) rfl ?_
  conv=>whnf
  refine bS (fun hc2=>?_) (fun hc2=>?_)
  ·try simp only [bls] at hc2
   exact qw92
  ·try simp only [bls] at hc2
   exact qw92
end Go.Proofs.YtpgfhkbnngjegaaGreatDoor
