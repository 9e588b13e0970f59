/- The bytes of columns, rows and keys. No condition. -/
import Derived.Test.YtpgfhkbnngjegaaGreatDoorT29
import Derived.Test.YtpgfhkbnngjegaaGreatDoorT33
import Derived.Test.YtpgfhkbnngjegaaGreatDoorW6
namespace Go.Proofs.YtpgfhkbnngjegaaGreatDoor
open Go.RowKit
set_option linter.unusedVariables false
set_option linter.unusedSimpArgs false
mutual
def noJ (i : Nat) : XV→Bool
 | .row j=>!Nat.beq j i
 | .ptr j _=>!Nat.beq j i
 | .rp j _ _ _=>!Nat.beq j i
 | .z j _ _=>!Nat.beq j i
 | .win j _ _=>!Nat.beq j i
 | .ag vs=>noJL i vs
 | .tu vs=>noJL i vs
 | .fu _ vs=>noJL i vs
 | .p _ _=>true
 | .any=>true
 | .ow _ _ _ _=>true
 | .pin _ _ _=>true
def noJL (i : Nat) : List XV→Bool
 | []=>true
 | v :: vs=>match noJ i v with
  | true=>noJL i vs
  | false=>false
end
mutual
theorem noJ_ok {i : Nat} : ∀ {v : XV},noJ i v = true→kpX i v = v
 | .row j,h=>by simp only [noJ,Bool.not_eq_true'] at h; simp [kpX,h]
 | .ptr j off,h=>by simp only [noJ,Bool.not_eq_true'] at h; simp [kpX,h]
 | .rp j a b c,h=>by simp only [noJ,Bool.not_eq_true'] at h; simp [kpX,h]
 | .z j a b,h=>by simp only [noJ,Bool.not_eq_true'] at h; simp [kpX,h]
 | .win j a b,h=>by simp only [noJ,Bool.not_eq_true'] at h; simp [kpX,h]
 | .ag vs,h=>by simp only [noJ] at h; simp only [kpX]; rw [noJL_ok h]
 | .tu vs,h=>by simp only [noJ] at h; simp only [kpX]; rw [noJL_ok h]
 | .fu _ vs,h=>by simp only [noJ] at h; simp only [kpX]; rw [noJL_ok h]
 | .p _ _,_=>rfl
 | .any,_=>rfl
 | .ow _ _ _ _,_=>rfl
 | .pin _ _ _,_=>rfl
theorem noJL_ok {i : Nat} : ∀ {vs : List XV},noJL i vs = true→kpXL i vs = vs
 | [],_=>rfl
 | v :: vs,h=>by
  unfold noJL at h
  split at h
  ·rename_i h1
   simp only [kpXL]
   rw [noJ_ok h1,noJL_ok h]
  ·cases h
end
theorem noJ_dn {i : Nat} {v : XV} (h : noJ i v = true) : kp (bar i) v.den = v.den:=by rw [← kpX_den,noJ_ok h]
def noJB (i : Nat) : XLB→Bool
 | .cells _ cs=>noJL i cs
 | .rowF _ _ _ _ cs _ _=>noJL i cs
 | _=>true
theorem kpXL_map (i : Nat) : ∀ vs : List XV,kpXL i vs = vs.map (kpX i)
 | []=>rfl
 | v :: vs=>by simp [kpXL,kpXL_map i vs]
theorem noJB_ok {i : Nat} {b : XLB} (h : noJB i b = true) : b.den.kp (bar i) = b.den:=by
 rw [← mapB_kp]
 congr 1
 cases b with
 | cells t cs=>simp only [noJB] at h; simp only [mapB]; rw [← kpXL_map,noJL_ok h]
 | rowF e sz pre hp cs post hq=>simp only [noJB] at h; simp only [mapB]; rw [← kpXL_map,noJL_ok h]
 | _=>rfl
def noJH (i : Nat) : List XLB→Bool
 | []=>true
 | b :: h=>match noJB i b with
  | true=>noJH i h
  | false=>false
theorem noJH_ok {i : Nat} : ∀ {h : List XLB},noJH i h = true→∀ lb ∈ h.map XLB.den,lb.kp (bar i) = lb
 | [],_,lb,hl=>by simp at hl
 | b :: h,hh,lb,hl=>by
  unfold noJH at hh
  split at hh
  ·rename_i h1
   simp only [List.map_cons,List.mem_cons] at hl
   rcases hl with rfl | hl
   ·exact noJB_ok h1
   ·exact noJH_ok hh lb hl
  ·cases hh
theorem strE_num (u : ByteArray) : strE u = (numS u).map by1:=by
 unfold strE numS bs
 rw [List.map_map]
 rfl
section
variable {P : Program} {B : Nat} {w0 : World} {T : Tab} {n : Nat}
def XPc (P : Program) (T : Tab) (n i : Nat) : List Oper→Env→List XLB→(Env→List XLB→Prop)→Prop
 | [],e,h,k=>k e h
 | o :: r,e,h,k=>match o.guard with
  | some _=>False
  | none=>match o.op.operands.toList.all fun x=>noJ i (xev n e x) with
   | false=>False
   | true=>XS P T n h e o.op fun v new=>match noJ i v with
    | false=>False
    | true=>putK n e o.dst v fun e'=>addK h new fun h'=>XPc P T n i r e' h' k
theorem XPc_ok (O : TabOk P T) {i : Nat} {K : List TV→List LB→Prop} : ∀ {l : List Oper} {e : Env} {h : List XLB} {k : Env→List XLB→Prop},XPc P T n i l e h k→(∀ e h,k e h→K (toL n e) (h.map XLB.den))→TPc P B w0 i l (toL n e) (h.map XLB.den) K
 | [],e,h,k,hh,hk=>hk _ _ hh
 | o :: r,e,h,k,hh,hk=>by
  unfold XPc at hh
  split at hh
  ·exact hh.elim
  ·rename_i hg
   split at hh
   ·exact hh.elim
   ·rename_i hop
    obtain ⟨v,new,hs,hh⟩:=XS_ok (B:=B) (w0:=w0) O hh
    split at hh
    ·exact hh.elim
    ·rename_i hv
     obtain ⟨e',he,hh⟩:=putK_ok hh
     obtain ⟨h',hh',hh⟩:=addK_ok hh
     refine ⟨v.den,new.map XLB.den,hg,hs,fun x hx=>?_,noJ_dn hv,?_⟩
     ·rw [← xev_den]
      exact noJ_dn (List.all_eq_true.1 hop x hx)
     ·have:=XPc_ok O hh hk
      rw [he,hh'] at this
      exact this
def rowE (T : Tab) (n : Nat) (e : Env) (h : List XLB) (t : TypeId) (x : Operand) (r : XLB) (k : XLB→Prop) : Prop:=match r with
 | .row e0 sz els hp=>tyK T t fun ti=>isK ti.k 3 (zK T ti.el fun te z=>isK z.cells.size te.n (posK te.n (posK te.by_ (elemsK n e h x fun ys hy=>ApOk te.n ys∧isK e0 ti.el (isK sz te.n ((els.length + ys.length) * te.by_ ≤ 140737488355328∧k (.row e0 sz (els ++ ys) (hp.append hy))))))))
 | _=>False
def u8z : Value→Bool
 | .int .u8 0=>true
 | _=>false
theorem u8z_ok {z : Value} (h : u8z z = true) : z = .int .u8 0:=by
 unfold u8z at h
 split at h
 ·rfl
 ·cases h
def rowT (T : Tab) (n : Nat) (e : Env) (t t2 : TypeId) (x : Operand) (r : XLB) (k : XLB→Prop) : Prop:=match r with
 | .row e0 sz els hp=>tyK T t fun ti=>isK ti.k 3 (tyK T t2 fun tj=>isK tj.k 4 (zK T ti.el fun te z=>match u8z z with
  | true=>isK te.n 1 (isK te.by_ 1 (isK e0 ti.el (isK sz 1 (match xev n e x with
   | .p (.v (.string u)) _=>els.length + u.size ≤ 140737488355328∧k (.row e0 sz (els ++ (numS u).map by1) (hp.append (nl_b1 _)))
   | _=>False))))
  | false=>False))
 | _=>False
def rowK (T : Tab) (n i : Nat) (e : Env) (h : List XLB) (t0 : Nat) (r : XLB) (op : Op) (k : XLB→Prop) : Prop:=match op with
 | .move (.tmp t)=>match Nat.beq t t0 with
  | true=>k r
  | false=>False
 | .call cl=>match cl with
  | { callee:=.builtin .append,args:=a,argTypes:=ts }=>match a.toList,ts.toList with
   | [.tmp s,.tmp x],[t,t2]=>match Nat.beq s t0 with
    | true=>match Nat.beq x t0 with
     | true=>False
     | false=>match noJ i (xev n e (.tmp x)) with
      | true=>match Nat.beq t t2 with
       | true=>rowE T n e h t (.tmp x) r k
       | false=>rowT T n e t t2 (.tmp x) r k
      | false=>False
    | false=>False
   | _,_=>False
  | _=>False
 | _=>False
theorem rowK_ok (O : TabOk P T) {i : Nat} {e : Env} {h : List XLB} {t0 : Nat} {r : XLB} {o : Oper} {k : XLB→Prop} (hh : rowK T n i e h t0 r o.op k) :
  ∃ r',(∀ y ∈ o.op.operands.toList,y ≠ .tmp t0→kp (bar i) (tev (toL n e) y) = tev (toL n e) y)∧RowF P B w0 i o (toL n e) (h.map XLB.den) (.tmp t0) r.den r'.den∧k r':=by
 unfold rowK at hh
 split at hh
 ·rename_i t hop
  split at hh
  ·rename_i ht
   have:=Nat.eq_of_beq_eq_true ht
   subst this
   exact ⟨r,fun y hy hne=>by rw [hop] at hy; simp [Op.operands] at hy; exact absurd hy hne,.move hop,hh⟩
  ·exact hh.elim
 ·rename_i cl hop
  split at hh
  ·rename_i a ts
   split at hh
   ·rename_i s x t t2 ha hts
    have ha' : a = #[.tmp s,.tmp x]:=by rw [← Array.toList_inj]; exact ha
    have hts' : ts = #[t,t2]:=by rw [← Array.toList_inj]; exact hts
    subst ha'; subst hts'
    split at hh
    ·rename_i hs
     have:=Nat.eq_of_beq_eq_true hs
     subst this
     split at hh
     ·exact hh.elim
     ·rename_i hx
      have hxs : (Operand.tmp x) ≠ .tmp s:=fun e=>by injection e with e; subst e; simp at hx
      split at hh
      ·rename_i hnj
       have hops : ∀ y ∈ o.op.operands.toList,y ≠ .tmp s→kp (bar i) (tev (toL n e) y) = tev (toL n e) y:=fun y hy hne=>by
        rw [hop] at hy
        simp [Op.operands,Call.operands] at hy
        rcases hy with rfl | rfl
        ·exact absurd rfl hne
        ·rw [← xev_den]; exact noJ_dn hnj
       split at hh
       ·rename_i htt
        have:=Nat.eq_of_beq_eq_true htt
        subst this
        unfold rowE at hh
        split at hh
        ·rename_i e0 sz els hp
         obtain ⟨ti,ht,hh⟩:=tyK_ok O hh
         obtain ⟨hk3,hh⟩:=isK_ok hh
         obtain ⟨te,z,he,hz,hh⟩:=zK_ok O hh
         obtain ⟨hzs,hh⟩:=isK_ok hh
         obtain ⟨hn,hh⟩:=posK_ok hh
         obtain ⟨hb,hh⟩:=posK_ok hh
         obtain ⟨ys,hy,hel,hap,hh⟩:=elemsK_ok (gs:=[]) hh
         obtain ⟨h2,hh⟩:=isK_ok hh
         obtain ⟨h3,hbd,hh⟩:=isK_ok hh
         subst h2; subst h3
         have hA : ApTy P t ti te:=⟨ht,hk3,he,⟨z,hz,hzs⟩,hn,hb⟩
         refine ⟨_,hops,RowF.app hop rfl hA hxs ?_ (fun c hc=>(hap c hc).1) (fun c hc=>(hap c hc).2) hbd rfl ((hp.append hy).k _),hh⟩
         rcases hel with ⟨b',g⟩ | ⟨j,e',sz,g1,g2⟩ | ⟨g1,g2⟩
         ·exact .inl ⟨b',g⟩
         ·exact .inr (.inl ⟨j,e',sz,g1,g2⟩)
         ·exact .inr (.inr ⟨g1,g2⟩)
        ·exact hh.elim
       ·unfold rowT at hh
        split at hh
        ·rename_i e0 sz els hp
         obtain ⟨ti,ht,hh⟩:=tyK_ok O hh
         obtain ⟨hk3,hh⟩:=isK_ok hh
         obtain ⟨tj,htj,hh⟩:=tyK_ok O hh
         obtain ⟨hk4,hh⟩:=isK_ok hh
         obtain ⟨te,z,he,hz,hh⟩:=zK_ok O hh
         split at hh
         ·rename_i hu8
          have:=u8z_ok hu8
          subst this
          obtain ⟨g1,hh⟩:=isK_ok hh
          obtain ⟨g2,hh⟩:=isK_ok hh
          obtain ⟨g3,hh⟩:=isK_ok hh
          obtain ⟨g4,hh⟩:=isK_ok hh
          subst g3; subst g4
          split at hh
          ·rename_i u hp' hxv
           obtain ⟨hbd,hh⟩:=hh
           obtain ⟨inf,hi0,f1,f2⟩:=ti_info he
           rw [hi0] at hz
           have htx:=xev_den n e (.tmp x)
           rw [hxv] at htx
           refine ⟨_,hops,RowF.str hop rfl (ti_slice ht hk3) (ti_string htj hk4) hi0 (by simpa using hz) (by rw [f1]; exact g1) (by rw [f2]; exact g2) hxs htx.symm hbd (by rw [strE_num]) ((hp.append (nl_b1 _)).k _),hh⟩
          ·exact hh.elim
         ·exact hh.elim
        ·exact hh.elim
      ·exact hh.elim
    ·exact hh.elim
   ·exact hh.elim
  ·exact hh.elim
 ·exact hh.elim
def ChX (T : Tab) (n i : Nat) (e : Env) (h : List XLB) (l : List Oper) : Nat→XLB→List (Nat × Nat)→(XLB→Prop)→Prop
 | _,r,[],k=>k r
 | t0,r,x :: qd,k=>match l[x.1]? with
  | some o=>rowK T n i e h t0 r o.op fun r'=>ChX T n i e h l x.2 r' qd k
  | none=>False
theorem ChX_ok (O : TabOk P T) {i : Nat} {e : Env} {h : List XLB} {l : List Oper} {k : XLB→Prop} : ∀ {qd : List (Nat × Nat)} {t0 : Nat} {r : XLB},ChX T n i e h l t0 r qd k →
  ∃ (rs : List LB) (r' : XLB),ChainR P B w0 i l (toL n e) (h.map XLB.den) t0 r.den qd rs∧(qd ≠ []→rs.getLastD .none = r'.den)∧k r'
 | [],t0,r,hh=>⟨[],r,trivial,fun h=>absurd rfl h,hh⟩
 | x :: qd,t0,r,hh=>by
  unfold ChX at hh
  split at hh
  ·rename_i o ho
   obtain ⟨r1,h1,h2,hh⟩:=rowK_ok (B:=B) (w0:=w0) O hh
   obtain ⟨rs,r',h3,h4,h5⟩:=ChX_ok O hh
   cases qd with
   | nil=>
    cases rs with
    | nil=>
     refine ⟨[r1.den],r1,⟨⟨o,ho,h1,h2⟩,trivial⟩,fun _=>rfl,?_⟩
     simpa [ChX] using hh
    | cons a b=>exact h3.elim
   | cons y qd=>
    cases rs with
    | nil=>exact h3.elim
    | cons a b=>exact ⟨r1.den :: a :: b,r',⟨⟨o,ho,h1,h2⟩,h3⟩,fun _=>by simpa using h4 (by simp),h5⟩
  ·exact hh.elim
def putAny (n : Nat) : List Nat→Env→(Env→Prop)→Prop
 | [],e,k=>k e
 | d :: ds,e,k=>putK n e (some d) .any fun e'=>putAny n ds e' k
theorem putAny_ok : ∀ {ds : List Nat} {e : Env} {k : Env→Prop},putAny n ds e k→∃ e',toL n e' = ds.foldl (fun s d=>s.set d .any) (toL n e)∧k e'
 | [],e,k,hh=>⟨e,rfl,hh⟩
 | d :: ds,e,k,hh=>by
  obtain ⟨e1,h1,hh⟩:=putK_ok hh
  obtain ⟨e',h2,hh⟩:=putAny_ok hh
  refine ⟨e',?_,hh⟩
  rw [h2,h1]
  rfl
theorem RegG.chain {e : Env} {h : List XLB} {gs : Frames} {K : KK} {l : List Oper} (m : Nat) (qd : List (Nat × Nat)) (ms : List Nat) (t0 i : Nat) (hB : chB l m qd ms t0 = true) (hq : (qd.all fun x=>Nat.blt x.2 n) = true) (hne : qd ≠ []) (ht0 : xev n e (.tmp t0) = .row i)
  (hx : rowAtK h i fun e0 sz els hp=>setK h i .none fun h0=>XPc P T n i (pickL ms l) e h0 fun e1 h1=>match noJH i h1 with
   | true=>ChX T n i e1 h1 l t0 (.row e0 sz els hp) qd fun r'=>turnK (kpX i) e1 h1 gs fun e2 h2 gs'=>setK h2 i r' fun h3=>putAny n (qd.map (·.2)).dropLast e2 fun e3=>putK n e3 (some ((qd.map (·.2)).getLastD 0)) (.row i) fun e4=>XL P B w0 T n l (l.drop m) e4 h3 gs' K
   | false=>False) : RegG P B w0 T n l e h gs K:=.ta fun O gh Q hqq=>by
 obtain ⟨e0,sz,els,hp,h1,h2,hx⟩:=rowAtK_ok hx
 have hx:=setK_ok (k:=fun h0=>XPc P T n i (pickL ms l) e h0 _) hx
 have hil : i < (h.map XLB.den).length:=hf_lt h1 (by simp)
 have e1:=xev_den n e (.tmp t0)
 rw [ht0] at e1
 refine TA.chain (σ:=xst n e h gs) m qd ms t0 i hB h1 hil hne e1.symm (fun x hx=>?_) ?_
 ·have:=List.all_eq_true.1 hq x hx
  show x.2 < (toL n e).length
  rw [toL_len]
  exact Nat.blt_eq.mp this
 ·have:=XPc_ok (B:=B) (w0:=w0) O hx (K:=fun s q=>(∀ lb ∈ q,lb.kp (bar i) = lb)∧∃ rs,ChainR P B w0 i l s q t0 (.row e0 sz els) qd rs∧TL P B w0 gh l.toArray (l.drop m) ⟨endC i (qd.map (·.2)) s,q.set i (rs.getLastD .none),kpL (bar i) (xst n e h gs).g⟩ Q) fun e1 h1 hh=>?_
  ·rw [List.map_set] at this
   exact this
  ·split at hh
   ·rename_i hj
    have hst:=noJH_ok hj
    obtain ⟨rs,r',g1,g2,hh⟩:=ChX_ok (B:=B) (w0:=w0) O hh
    refine ⟨hst,rs,g1,?_⟩
    have hh:=turnK_ok hh
    have hh:=setK_ok (k:=fun h3=>putAny n (qd.map (·.2)).dropLast (mapE (kpX i) e1) fun e3=>putK n e3 (some ((qd.map (·.2)).getLastD 0)) (.row i) fun e4=>XL P B w0 T n l (l.drop m) e4 h3 (mapG (kpX i) gs) K) hh
    obtain ⟨e3,k1,hh⟩:=putAny_ok hh
    obtain ⟨e4,k2,hh⟩:=putK_ok hh
    have:=XL_ok O l.toArray gh Q (by simpa using hh) hqq
    have e5 : xst n e4 ((h1.map (mapB (kpX i))).set i r') (mapG (kpX i) gs) = ⟨endC i (qd.map (·.2)) (toL n e1),(h1.map XLB.den).set i (rs.getLastD .none),kpL (bar i) (xst n e h gs).g⟩:=by
     simp only [xst,k2,k1,toL_kp,List.map_set,hmap_kp,denG_kp,g2 hne]
     congr 2
     have : (h1.map XLB.den).map (LB.kp (bar i)) = h1.map XLB.den:=by
      conv=>rhs; rw [← List.map_id (h1.map XLB.den)]
      exact List.map_congr_left fun lb hlb=>hst lb hlb
     exact this
    rw [e5] at this
    exact this
   ·exact hh.elim
end
end Go.Proofs.YtpgfhkbnngjegaaGreatDoor

namespace Go.Proofs.YtpgfhkbnngjegaaGreatDoor
open Go.RowKit
set_option linter.unusedVariables false
set_option linter.unusedSimpArgs false
theorem qw70 {p : Prop} (h : p:=by
 conv=>whnf
 refine RegG.chain 16 [(0,23),(6,29),(9,32),(15,38)] [1,2,3,4,5,7,8,10,11,12,13,14] 3 1 (by kernel_rfl) (by kernel_rfl) (List.cons_ne_nil _ _) rfl ?_
 conv=>whnf
 simp (disch:=omega) only [wz,Int.reduceAdd,Int.reduceSub,Int.reduceMul,Int.reduceNeg,Int.zero_add,Int.add_zero,Int.sub_zero,Int.sub_self]
 conv=>whnf
 refine ⟨ApOk.lit rfl,?_⟩
 conv=>whnf
 refine ⟨by have:=hdK_len hd hk; have:=hd _ (List.mem_of_getElem? hx1); simp only [List.length_append,List.length_map,List.length_cons,List.length_nil,numS_len]; omega,?_⟩
 conv=>whnf
 simp (disch:=omega) only [wz,Int.reduceAdd,Int.reduceSub,Int.reduceMul,Int.reduceNeg,Int.zero_add,Int.add_zero,Int.sub_zero,Int.sub_self]
 conv=>whnf
 refine ⟨by have:=hdK_len hd hk; have:=hd _ (List.mem_of_getElem? hx1); simp only [List.length_append,List.length_map,List.length_cons,List.length_nil,numS_len]; omega,?_⟩
 conv=>whnf
 simp (disch:=omega) only [wz,Int.reduceAdd,Int.reduceSub,Int.reduceMul,Int.reduceNeg,Int.zero_add,Int.add_zero,Int.sub_zero,Int.sub_self]
 conv=>whnf
 refine ⟨ApOk.lit rfl,?_⟩
 conv=>whnf
 refine ⟨by have:=hdK_len hd hk; have:=hd _ (List.mem_of_getElem? hx1); simp only [List.length_append,List.length_map,List.length_cons,List.length_nil,numS_len]; omega,?_⟩
 conv=>whnf
 refine ⟨(k + 1),by omega,by omega,?_⟩
 refine ⟨?_,?_,?_⟩
 ·refine leEnv_app (by kernel_rfl) (by kernel_rfl) ?_
  repeat ((conv=>whnf); first | exact True.intro | refine ⟨.rfl,?_⟩ | refine ⟨.any,?_⟩ | refine ⟨.nil,?_⟩ | refine ⟨.int (by first | rfl | omega | (simp only [wrs]; omega)),?_⟩)
 ·repeat (first | exact LeVs.nil | ((conv=>whnf); first | exact True.intro | exact .none | exact .ext | exact .row rfl | exact .row ((hd_row2 hx1 (by simp_all [flgN]))) | refine .cells ?_ | refine ⟨_,_,rfl,.rfl,?_⟩ | refine ⟨_,_,rfl,.any,?_⟩ | refine ⟨_,_,rfl,.nil,?_⟩ | refine ⟨_,_,rfl,.int (by first | rfl | omega | (simp only [wrs]; omega)),?_⟩ | refine ⟨?_,?_⟩))
  done
 ·exact LeFr.nil) : p:=h
theorem qw71 {p : Prop} (h : p:=by
 refine leEnv_app (by kernel_rfl) (by kernel_rfl) ?_
 repeat ((conv=>whnf); first | exact True.intro | refine ⟨.rfl,?_⟩ | refine ⟨.any,?_⟩ | refine ⟨.nil,?_⟩ | refine ⟨.int (by first | rfl | omega | (simp only [wrs]; omega)),?_⟩)) : p:=h
theorem qw72 {p : Prop} (h : p:=by
 refine ⟨?_,?_,?_⟩
 ·refine leEnv_app (by kernel_rfl) (by kernel_rfl) ?_
  repeat ((conv=>whnf); first | exact True.intro | refine ⟨.rfl,?_⟩ | refine ⟨.any,?_⟩ | refine ⟨.nil,?_⟩ | refine ⟨.int (by first | rfl | omega | (simp only [wrs]; omega)),?_⟩ | refine ⟨.tv (by first | rfl | (rw [rb_str hv1 (List.all_eq_true.1 ho _ (List.mem_of_getElem? hv1))])),?_⟩)
 ·repeat (first | exact LeVs.nil | ((conv=>whnf); first | exact True.intro | exact .none | exact .ext | exact .row rfl | refine .cells ?_ | refine ⟨_,_,rfl,.rfl,?_⟩ | refine ⟨_,_,rfl,.any,?_⟩ | refine ⟨_,_,rfl,.nil,?_⟩ | refine ⟨_,_,rfl,.int (by first | rfl | omega | (simp only [wrs]; omega)),?_⟩ | refine ⟨_,_,rfl,.tv (by first | rfl | (rw [rb_str hv1 (List.all_eq_true.1 ho _ (List.mem_of_getElem? hv1))])),?_⟩ | refine ⟨?_,?_⟩))
  done
 ·exact LeFr.nil) : p:=h
theorem qw73 {p : Prop} (h : p:=by
 intro B w0
 conv=>whnf
 simp (disch:=omega) only [wz,Int.reduceAdd,Int.reduceSub,Int.reduceMul,Int.reduceNeg,Int.zero_add,Int.add_zero,Int.sub_zero,Int.sub_self]
 conv=>whnf
 refine ⟨by show 1 + s.size ≤ _; omega,?_⟩
 conv=>whnf
 refine ⟨by rw [ByteArray.size_append]; show 1 + s.size + 1 ≤ _; omega,?_⟩
 conv=>whnf
 refine FinG.mk none ?_ zqR
 simp only [outs,zqL,fr_by1]
 rfl) : p:=h
theorem qw74 {p : Prop} (h : p:=by
 refine ⟨?_,?_,?_⟩
 ·exact qw71
 ·repeat (first | exact LeVs.nil | ((conv=>whnf); first | exact True.intro | exact .none | exact .ext | exact .row rfl | exact .row ((by rw [List.length_map]; rfl)) | refine .cells ?_ | refine ⟨_,_,rfl,.rfl,?_⟩ | refine ⟨_,_,rfl,.any,?_⟩ | refine ⟨_,_,rfl,.nil,?_⟩ | refine ⟨_,_,rfl,.int (by first | rfl | omega | (simp only [wrs]; omega)),?_⟩ | refine ⟨?_,?_⟩))
  done
 ·exact LeFr.nil) : p:=h
theorem qw75 {p : Prop} (h : p:=by
 conv=>whnf
 refine FinG.mk none ?_ zqR
 simp only [outs,zqL,fr_by1]
 simp_all [flgN]) : p:=h
theorem qw76 {p : Prop} (h : p:=by
 try simp only [bls] at hc1
 conv=>whnf
 refine FinG.mk (some 1) ?_ (by rintro _ ⟨⟩; trivial)
 simp only [outs,zqL,fr_by1]
 rw [hdK_end hk (by omega)]) : p:=h
set_option maxRecDepth 20000
def flgN (d : Dfn) : Int:=if d.k = true then 2 else if d.nn = true then 1 else 0
def hdD (d : Dfn) : List Int:=IntKind.u8.wrap d.n.size :: (numS d.n ++ [IntKind.u8.wrap d.t,flgN d])
def hdK (c : List Dfn) (k : Nat) : List Int:=IntKind.u8.wrap c.length :: (c.take k).flatMap hdD
/-- A table's columns' bytes. -/
def hdL (c : List Dfn) : List Int:=hdK c c.length
theorem hdK_s {c : List Dfn} {k : Nat} {d : Dfn} (h : c[k]? = some d) : hdK c (k + 1) = hdK c k ++ hdD d:=by
  obtain ⟨hk,rfl⟩:=List.getElem?_eq_some_iff.1 h
  unfold hdK
  rw [List.take_succ_eq_append_getElem hk,List.flatMap_append]
  simp
theorem hdK_len {c : List Dfn} (hd : ∀ d ∈ c,d.n.size ≤ 1000) : ∀ {k : Nat},k ≤ c.length→(hdK c k).length ≤ 1 + k * 1003
  | 0,_=>by simp [hdK]
  | k + 1,hk=>by
    have ih:=hdK_len hd (k:=k) (by omega)
    have h1 : c[k]? = some c[k]:=List.getElem?_eq_getElem (by omega)
    rw [hdK_s h1,List.length_append]
    have h2:=hd _ (List.getElem_mem (show k < c.length by omega))
    unfold hdD
    simp only [List.length_cons,List.length_append,numS_len,List.length_nil]
    rw [Nat.succ_mul]
    omega
theorem hdK_end {c : List Dfn} {k : Nat} (h1 : k ≤ c.length) (h2 : (c.length : Int) ≤ k) : hdK c k = hdL c:=by
  obtain rfl : k = c.length:=by omega
  rfl
theorem hd_row {c : List Dfn} {k : Nat} {d : Dfn} (h : c[k]? = some d) : (hdK c k).map by1 ++ [[.v (.int .u8 (IntKind.u8.wrap d.n.size))]] ++ (numS d.n).map by1 ++ [[.v (.int .u8 (IntKind.u8.wrap d.t))],[.v (.int .u8 (flgN d))]] = (hdK c (k + 1)).map by1:=by
  rw [hdK_s h]
  simp [hdD,by1]
theorem hd_row2 {c : List Dfn} {k : Nat} {d : Dfn} {x : Int} (h : c[k]? = some d) (hx : flgN d = x) : (hdK c k).map by1 ++ [[.v (.int .u8 (IntKind.u8.wrap d.n.size))]] ++ (numS d.n).map by1 ++ [[.v (.int .u8 (IntKind.u8.wrap d.t))],[.v (.int .u8 x)]] = (hdK c (k + 1)).map by1:=by
  subst hx; exact hd_row h
set_option maxRecDepth 20000 in
theorem flag_T (d : Dfn) : XMeets Tryz.prog 112 [.agg [.v (.string d.n),.v (.int .i64 d.t),.v (.bool d.k),.v (.bool d.nn)]] (.p (.v (.int .u8 (flgN d))) (nlv _)):=by
 refine XMeets.of_X tabX_ok (avs:=[.ag [.p (.v (.string d.n)) (nlv _),.p (.v (.int .i64 d.t)) (nlv _),.p (.v (.bool d.k)) (nlv _),.p (.v (.bool d.nn)) (nlv _)]]) [(0,.ag [.p (.v (.string d.n)) (nlv _),.p (.v (.int .i64 d.t)) (nlv _),.p (.v (.bool d.k)) (nlv _),.p (.v (.bool d.nn)) (nlv _)])] (by kernel_rfl) Tryz.func112 rfl (by simp [PuL,Pu]) (rfl) rfl rfl ?_
 intro B w0
 conv=>whnf
 refine bS (fun hc1=>?_) (fun hc1=>?_)
 ·try simp only [bls] at hc1
  exact qw75
 ·try simp only [bls] at hc1
  conv=>whnf
  refine bS (fun hc2=>?_) (fun hc2=>?_)
  ·try simp only [bls] at hc2
   exact qw75
  ·try simp only [bls] at hc2
   exact qw75
set_option maxRecDepth 20000 in
theorem head_T (b b2 b3 : Bool) (t : Tbl) (hn : t.c.length ≤ 1000) (hd : ∀ d ∈ t.c,d.n.size ≤ 1000) : XMeets Tryz.prog 74 [tbT b b2 b3 t] (.ow 5 1 ((hdL t.c).map by1) (nl_by1 _)):=by
 refine XMeets.of_X tabX_ok (avs:=[.ag [.p (.v (.string (t.n))) (nlv _),.p (.sl false (t.c.map dfC)) (nl_dc _).sl,.p (.sl false (t.r.map (rwC false))) (nl_rw _ _).sl]]) [(0,.ag [.p (.v (.string (t.n))) (nlv _),.p (.sl false (t.c.map dfC)) (nl_dc _).sl,.p (.sl false (t.r.map (rwC false))) (nl_rw _ _).sl])] (by kernel_rfl) Tryz.func74 rfl (by simp [PuL,Pu,tbT,stT,tbC,rwC,vlC,dfC,pu_vl,pu_dc,pu_rw,pu_tb]) (by simp only [untagL,untag,tbT,stT,tbC,rwC,vlC,dfC,untag_vl,untag_dc,untag_rw,untag_tb]; rfl) rfl rfl ?_
 intro B w0
 conv=>whnf
 refine XT.loop tabX_ok (Y:=Nat) [3,5,10,14,15,16,17,18,19,20,21,22,23,24,25,26,27,28,29,30,31,32,33,34,35] (fun k=>[(14,.p (.v (.int .i64 (k))) (nlv _)),(3,.row 1)]) (fun k=>[(1,.row 5 1 ((hdK t.c k).map by1) (nl_by1 _))]) (fun k=>k ≤ t.c.length) (fun k=>t.c.length - k) 0 (Nat.zero_le _) ?_ ?_
 ·exact qw74
 ·rintro k hk
  conv=>whnf
  refine bS (fun hc1=>?_) (fun hc1=>?_)
  ·try simp only [bls] at hc1
   conv=>whnf
   refine IdxG.map (l:=t.c) _ rfl (by first | omega | (simp only [List.length_map] at *; omega)) ?_; intro x1 hx1 hnx1
   conv=>whnf
   refine ⟨rfl,?_⟩
   conv=>whnf
   refine RegG.chain 17 [(0,18),(6,24),(9,27),(16,34)] [1,2,3,4,5,7,8,10,11,12,13,14,15] 3 1 (by kernel_rfl) (by kernel_rfl) (List.cons_ne_nil _ _) rfl ?_
   conv=>whnf
   refine CallG.mk (flag_T _) rfl ?_
   conv=>whnf
   simp (disch:=omega) only [wz,Int.reduceAdd,Int.reduceSub,Int.reduceMul,Int.reduceNeg,Int.zero_add,Int.add_zero,Int.sub_zero,Int.sub_self]
   conv=>whnf
   refine ⟨ApOk.lit rfl,?_⟩
   conv=>whnf
   refine ⟨by have:=hdK_len hd hk; have:=hd _ (List.mem_of_getElem? hx1); simp only [List.length_append,List.length_map,List.length_cons,List.length_nil,numS_len]; omega,?_⟩
   conv=>whnf
   simp (disch:=omega) only [wz,Int.reduceAdd,Int.reduceSub,Int.reduceMul,Int.reduceNeg,Int.zero_add,Int.add_zero,Int.sub_zero,Int.sub_self]
   conv=>whnf
   refine ⟨by have:=hdK_len hd hk; have:=hd _ (List.mem_of_getElem? hx1); simp only [List.length_append,List.length_map,List.length_cons,List.length_nil,numS_len]; omega,?_⟩
   conv=>whnf
   simp (disch:=omega) only [wz,Int.reduceAdd,Int.reduceSub,Int.reduceMul,Int.reduceNeg,Int.zero_add,Int.add_zero,Int.sub_zero,Int.sub_self]
   conv=>whnf
   refine ⟨ApOk.lit rfl,?_⟩
   conv=>whnf
   refine ⟨by have:=hdK_len hd hk; have:=hd _ (List.mem_of_getElem? hx1); simp only [List.length_append,List.length_map,List.length_cons,List.length_nil,numS_len]; omega,?_⟩
   conv=>whnf
   refine ⟨(k + 1),by omega,by omega,?_⟩
   refine ⟨?_,?_,?_⟩
   ·exact qw71
   ·repeat (first | exact LeVs.nil | ((conv=>whnf); first | exact True.intro | exact .none | exact .ext | exact .row rfl | exact .row ((hd_row hx1)) | refine .cells ?_ | refine ⟨_,_,rfl,.rfl,?_⟩ | refine ⟨_,_,rfl,.any,?_⟩ | refine ⟨_,_,rfl,.nil,?_⟩ | refine ⟨_,_,rfl,.int (by first | rfl | omega | (simp only [wrs]; omega)),?_⟩ | refine ⟨?_,?_⟩))
    done
   ·exact LeFr.nil
  ·exact qw76
set_option maxRecDepth 20000 in
theorem head12_T (b b2 b3 : Bool) (t : Tbl) (hn : t.c.length ≤ 1000) (hd : ∀ d ∈ t.c,d.n.size ≤ 1000) : XMeets Tryz.prog 92 [tbT b b2 b3 t] (.ow 5 1 ((hdL t.c).map by1) (nl_by1 _)):=by
 refine XMeets.of_X tabX_ok (avs:=[.ag [.p (.v (.string (t.n))) (nlv _),.p (.sl false (t.c.map dfC)) (nl_dc _).sl,.p (.sl false (t.r.map (rwC false))) (nl_rw _ _).sl]]) [(0,.ag [.p (.v (.string (t.n))) (nlv _),.p (.sl false (t.c.map dfC)) (nl_dc _).sl,.p (.sl false (t.r.map (rwC false))) (nl_rw _ _).sl])] (by kernel_rfl) Tryz.func92 rfl (by simp [PuL,Pu,tbT,stT,tbC,rwC,vlC,dfC,pu_vl,pu_dc,pu_rw,pu_tb]) (by simp only [untagL,untag,tbT,stT,tbC,rwC,vlC,dfC,untag_vl,untag_dc,untag_rw,untag_tb]; rfl) rfl rfl ?_
 intro B w0
 conv=>whnf
 refine XT.loop tabX_ok (Y:=Nat) [3,5,6,11,15,16,17,18,19,20,21,22,23,24,25,26,27,28,29,30,31,32,33,34,35,36,37,38,39] (fun k=>[(15,.p (.v (.int .i64 (k))) (nlv _)),(3,.row 1)]) (fun k=>[(1,.row 5 1 ((hdK t.c k).map by1) (nl_by1 _))]) (fun k=>k ≤ t.c.length) (fun k=>t.c.length - k) 0 (Nat.zero_le _) ?_ ?_
 ·exact qw74
 ·rintro k hk
  conv=>whnf
  refine bS (fun hc1=>?_) (fun hc1=>?_)
  ·try simp only [bls] at hc1
   conv=>whnf
   refine IdxG.map (l:=t.c) _ rfl (by first | omega | (simp only [List.length_map] at *; omega)) ?_; intro x1 hx1 hnx1
   conv=>whnf
   refine ⟨rfl,?_⟩
   conv=>whnf
   refine bS (fun hc2=>?_) (fun hc2=>?_)
   ·try simp only [bls] at hc2
    conv=>whnf
    refine bS (fun hc3=>?_) (fun hc3=>?_)
    ·try simp only [bls] at hc3
     exact qw70
    ·try simp only [bls] at hc3
     exact qw70
   ·try simp only [bls] at hc2
    conv=>whnf
    refine bS (fun hc4=>?_) (fun hc4=>?_)
    ·try simp only [bls] at hc4
     exact qw70
    ·try simp only [bls] at hc4
     exact qw70
  ·exact qw76
theorem encB_len {v : Val} (h : rightB v = true) : (encB v).length ≤ 200:=by
  unfold encB
  rw [List.length_cons]
  split
  · simp
  · split
    · rw [beN_len]; omega
    · split
      · have h4 : v.k = 4:=by assumption
        have hs : v.t.size ≤ 64:=by
          unfold rightB at h
          simp only [h4] at h
          simp at h
          exact h.2
        have h1:=escT_len v.t v.t.size
        rw [escT_all] at h1
        simp only [List.length_append,List.length_cons,List.length_nil]
        omega
      · simp
theorem encV_len (v : Val) : (encV v).length ≤ 200:=by
  unfold encV
  split
  · exact encB_len (by assumption)
  · simp
theorem Val.Ok.i64 {v : Val} (h : v.Ok) : I64 v.n:=⟨h.2.2.1,h.2.2.2.1⟩
theorem encV_b {v : Val} (h : rightB v = true) : encV v = encB v:=by simp [encV,h]
def encR (r : List Val) (k : Nat) : List Int:=(r.take k).flatMap encV
def okP (r : List Val) (k : Nat) : Prop:=∀ (j : Nat) (v : Val),j < k→r[j]? = some v→rightB v = true
def okR (r : List Val) : Bool:=r.all rightB
/-- A row's bytes, as a text. -/
def rbS (r : List Val) : ByteArray:=if okR r = true then strOfNums (encR r r.length) else ⟨#[]⟩
theorem encR_s {r : List Val} {k : Nat} {v : Val} (h : r[k]? = some v) : encR r (k + 1) = encR r k ++ encV v:=by
  obtain ⟨hk,rfl⟩:=List.getElem?_eq_some_iff.1 h
  unfold encR
  rw [List.take_succ_eq_append_getElem hk,List.flatMap_append]
  simp
theorem encR_len {r : List Val} : ∀ {k : Nat},k ≤ r.length→(encR r k).length ≤ k * 200
  | 0,_=>by simp [encR]
  | k + 1,hk=>by
    have ih:=encR_len (r:=r) (k:=k) (by omega)
    have h1 : r[k]? = some r[k]:=List.getElem?_eq_getElem (by omega)
    rw [encR_s h1,List.length_append]
    have h2:=encV_len r[k]
    rw [Nat.succ_mul]
    omega
theorem okP_0 (r : List Val) : okP r 0:=fun j v h=>by omega
theorem okP_s {r : List Val} {k : Nat} {v : Val} (h : okP r k) (hv : r[k]? = some v) (h1 : rightB v = true) : okP r (k + 1):=fun j x hj hx=>by
  rcases Nat.lt_or_ge j k with h2 | h2
  · exact h j x h2 hx
  · obtain rfl : j = k:=by omega
    rw [hv] at hx; injection hx with hx; rw [← hx]; exact h1
theorem rbS_t {r : List Val} {k : Nat} (h : okP r k) (hk : k ≤ r.length) (h2 : (r.length : Int) ≤ k) : strOfNums (encR r k) = rbS r:=by
  obtain rfl : k = r.length:=by omega
  have : okR r = true:=List.all_eq_true.2 fun v hv=>by
    obtain ⟨j,hj,rfl⟩:=List.getElem_of_mem hv
    exact h j _ hj (List.getElem?_eq_getElem hj)
  simp [rbS,this]
theorem rbS_f {r : List Val} {k : Nat} {v : Val} (hv : r[k]? = some v) (h : rightB v = false) : rbS r = ⟨#[]⟩:=by
  have : okR r = false:=by
    rw [okR,List.all_eq_false]
    exact ⟨v,List.mem_of_getElem? hv,by simp [h]⟩
  simp [rbS,this]
theorem rb_row {r : List Val} {k : Nat} {v : Val} (h : r[k]? = some v) : (encR r k).map by1 ++ (encV v).map by1 = (encR r (k + 1)).map by1:=by rw [encR_s h,List.map_append]
theorem son_app (a b : List Int) : strOfNums a ++ strOfNums b = strOfNums (a ++ b):=by
  apply ByteArray.ext
  simp [strOfNums]
theorem rb_str {r : List Val} {k : Nat} {v : Val} (h : r[k]? = some v) (hr : rightB v = true) : strOfNums (encR r k) ++ strOfNums (encB v) = strOfNums (encR r (k + 1)):=by rw [encR_s h,encV_b hr,son_app]
/-- What a name's bytes are, as something. -/
def nmS (k : UInt8) (s : ByteArray) : ByteArray:=⟨#[k]⟩ ++ s ++ ⟨#[0]⟩
theorem nmS_len (k : UInt8) (s : ByteArray) : (nmS k s).size = s.size + 2:=by
  unfold nmS
  simp only [ByteArray.size_append]
  show 1 + s.size + 1 = _
  omega
def rkS (s : ByteArray) (v : Val) : ByteArray:=if rightB v = true then nmS 2 s ++ strOfNums (encV v) else ⟨#[]⟩
set_option maxRecDepth 20000 in
theorem rb_T (b : Bool) (r : List Val) (hn : r.length ≤ 100000) (hv : ∀ v ∈ r,v.Ok) : XMeets Tryz.prog 23 [.sl b (r.map vlC)] (.p (.v (.string (rbS r))) (nlv _)):=by
 refine XMeets.of_XM [(2,.p (.v (.bool true)) (nlv _))] tabX_ok (avs:=[.p (.sl false (r.map vlC)) (nl_vl _).sl]) [(0,.p (.sl false (r.map vlC)) (nl_vl _).sl)] (by kernel_rfl) Tryz.func23 rfl (by simp [PuL,Pu,tbT,stT,tbC,rwC,vlC,dfC,pu_vl,pu_dc,pu_rw,pu_tb]) (by simp only [untagL,untag,tbT,stT,tbC,rwC,vlC,dfC,untag_vl,untag_dc,untag_rw,untag_tb]; rfl) rfl rfl ?_
 intro B w0
 conv=>whnf
 refine XT.nilr 3 5 1 rfl rfl ?_
 conv=>whnf
 refine XT.pass tabX_ok ?_
 conv=>whnf
 refine XT.pass tabX_ok ?_
 conv=>whnf
 refine XT.loop tabX_ok (Y:=Nat) [2,3,5,6,7,10,11,12,13,14,15,16,17,18,19,20,21,22,23,24] (fun k=>[(10,.p (.v (.int .i64 (k))) (nlv _)),(3,.row 0)]) (fun k=>[(0,.row 5 1 ((encR r k).map by1) (nl_by1 _))]) (fun k=>k ≤ r.length∧okP r k) (fun k=>r.length - k) 0 ⟨Nat.zero_le _,okP_0 _⟩ ?_ ?_
 ·refine ⟨?_,?_,?_⟩
  ·exact qw71
  ·repeat (first | exact LeVs.nil | ((conv=>whnf); first | exact True.intro | exact .none | exact .ext | exact .row rfl | refine .cells ?_ | refine ⟨_,_,rfl,.rfl,?_⟩ | refine ⟨_,_,rfl,.any,?_⟩ | refine ⟨_,_,rfl,.nil,?_⟩ | refine ⟨_,_,rfl,.int (by first | rfl | omega | (simp only [wrs]; omega)),?_⟩ | refine ⟨?_,?_⟩))
   done
  ·exact LeFr.same (by kernel_rfl)
 ·rintro k ⟨hk,hP⟩
  conv=>whnf
  refine bS (fun hc1=>?_) (fun hc1=>?_)
  ·try simp only [bls] at hc1
   conv=>whnf
   refine IdxG.map (l:=r) _ rfl (by first | omega | (simp only [List.length_map] at *; omega)) ?_; intro v1 hv1 hnv1
   conv=>whnf
   refine ⟨rfl,?_⟩
   conv=>whnf
   refine .ct ?_
   conv=>whnf
   refine CallG.mk (encode_X _ (hv _ (List.mem_of_getElem? hv1)).i64) rfl ?_
   conv=>whnf
   refine bS (fun hc2=>?_) (fun hc2=>?_)
   ·try simp only [bls] at hc2
    conv=>whnf
    refine FinG.mk none ?_ zqR
    simp only [outs,zqL,fr_by1]
    rw [rbS_f hv1 (by simp_all [checkN_0]; done)]
   ·try simp only [bls] at hc2
    conv=>whnf
    refine ⟨ap_by1 _,?_⟩
    conv=>whnf
    refine ⟨by have:=encR_len hk; have:=encV_len v1; simp only [List.length_append,List.length_map,List.length_cons,List.length_nil]; omega,?_⟩
    conv=>whnf
    refine ⟨(k + 1),⟨by omega,okP_s hP hv1 (by simp_all [checkN_0]; done)⟩,by omega,?_⟩
    refine ⟨?_,?_,?_⟩
    ·exact qw71
    ·repeat (first | exact LeVs.nil | ((conv=>whnf); first | exact True.intro | exact .none | exact .ext | exact .row rfl | exact .row ((rb_row hv1)) | refine .cells ?_ | refine ⟨_,_,rfl,.rfl,?_⟩ | refine ⟨_,_,rfl,.any,?_⟩ | refine ⟨_,_,rfl,.nil,?_⟩ | refine ⟨_,_,rfl,.int (by first | rfl | omega | (simp only [wrs]; omega)),?_⟩ | refine ⟨?_,?_⟩))
     done
    ·exact LeFr.same (by kernel_rfl)
  ·try simp only [bls] at hc1
   conv=>whnf
   refine ⟨_,rfl,?_⟩
   conv=>whnf
   refine FinG.mk none ?_ zqR
   simp only [outs,zqL,fr_by1]
   rw [rbS_t hP hk (by omega)]
theorem rbS_o {r : List Val} (h : okR r = true) {k : Nat} (h1 : k ≤ r.length) (h2 : (r.length : Int) ≤ k) : strOfNums (encR r k) = rbS r:=by
  obtain rfl : k = r.length:=by omega
  simp [rbS,h]
set_option maxRecDepth 20000 in
theorem rb12_T (b : Bool) (r : List Val) (hn : r.length ≤ 100000) (hv : ∀ v ∈ r,v.Ok) (ho : okR r = true) : XMeets Tryz.prog 22 [.sl b (r.map vlC)] (.p (.v (.string (rbS r))) (nlv _)):=by
 refine XMeets.of_X tabX_ok (avs:=[.p (.sl false (r.map vlC)) (nl_vl _).sl]) [(0,.p (.sl false (r.map vlC)) (nl_vl _).sl)] (by kernel_rfl) Tryz.func22 rfl (by simp [PuL,Pu,tbT,stT,tbC,rwC,vlC,dfC,pu_vl,pu_dc,pu_rw,pu_tb]) (by simp only [untagL,untag,tbT,stT,tbC,rwC,vlC,dfC,untag_vl,untag_dc,untag_rw,untag_tb]; rfl) rfl rfl ?_
 intro B w0
 conv=>whnf
 refine XT.loop tabX_ok (Y:=Nat) [3,5,8,9,10,11,12,13,14,15,16,17] (fun k=>[(8,.p (.v (.int .i64 (k))) (nlv _)),(3,.p (.v (.string (strOfNums (encR r k)))) (nlv _))]) (fun k=>[]) (fun k=>k ≤ r.length) (fun k=>r.length - k) 0 (Nat.zero_le _) ?_ ?_
 ·exact qw72
 ·rintro k hk
  conv=>whnf
  refine bS (fun hc1=>?_) (fun hc1=>?_)
  ·try simp only [bls] at hc1
   conv=>whnf
   refine IdxG.map (l:=r) _ rfl (by first | omega | (simp only [List.length_map] at *; omega)) ?_; intro v1 hv1 hnv1
   conv=>whnf
   refine ⟨rfl,?_⟩
   conv=>whnf
   refine .ct ?_
   conv=>whnf
   refine CallG.mk (bytes5_X _ (hv _ (List.mem_of_getElem? hv1)).i64 (List.all_eq_true.1 ho _ (List.mem_of_getElem? hv1))) rfl ?_
   conv=>whnf
   refine ⟨_,rfl,?_⟩
   conv=>whnf
   refine ⟨by have:=encR_len hk; have:=encB_len (List.all_eq_true.1 ho _ (List.mem_of_getElem? hv1)); simp only [strOfNums_size]; omega,?_⟩
   conv=>whnf
   refine ⟨(k + 1),by omega,by omega,?_⟩
   exact qw72
  ·try simp only [bls] at hc1
   conv=>whnf
   refine FinG.mk none ?_ zqR
   simp only [outs,zqL,fr_by1]
   rw [rbS_o ho hk (by omega)]
set_option maxRecDepth 20000 in
theorem named1_T (s : ByteArray) (hn : s.size ≤ 140737488355328) : XMeets Tryz.prog 65 [.v (.int .u8 1),.v (.string s)] (.p (.v (.string (nmS 1 s))) (nlv _)):=by
 refine XMeets.of_X tabX_ok (avs:=[.p (.v (.int .u8 1)) (nlv _),.p (.v (.string s)) (nlv _)]) [(0,.p (.v (.int .u8 1)) (nlv _)),(1,.p (.v (.string s)) (nlv _))] (by kernel_rfl) Tryz.func65 rfl (by simp [PuL,Pu]) (rfl) rfl rfl ?_
 exact qw73
set_option maxRecDepth 20000 in
theorem named2_T (s : ByteArray) (hn : s.size ≤ 140737488355328) : XMeets Tryz.prog 65 [.v (.int .u8 2),.v (.string s)] (.p (.v (.string (nmS 2 s))) (nlv _)):=by
 refine XMeets.of_X tabX_ok (avs:=[.p (.v (.int .u8 2)) (nlv _),.p (.v (.string s)) (nlv _)]) [(0,.p (.v (.int .u8 2)) (nlv _)),(1,.p (.v (.string s)) (nlv _))] (by kernel_rfl) Tryz.func65 rfl (by simp [PuL,Pu]) (rfl) rfl rfl ?_
 exact qw73
theorem rkS_f {s : ByteArray} {v : Val} (h : rightB v = false) : rkS s v = ⟨#[]⟩:=by simp [rkS,h]
theorem rkS_t {s : ByteArray} {v : Val} (h : rightB v = true) : rkS s v = nmS 2 s ++ strOfNums (encV v):=by simp [rkS,h]
theorem rkS_b {s : ByteArray} {v : Val} (h : rightB v = true) : rkS s v = nmS 2 s ++ strOfNums (encB v):=by simp [rkS,h,encV_b]
set_option maxRecDepth 20000 in
theorem rk_T (s : ByteArray) (v : Val) (hs : s.size ≤ 140737488355328) (hn : v.Ok) : XMeets Tryz.prog 25 [.v (.string s),valT v] (.p (.v (.string (rkS s v))) (nlv _)):=by
 refine XMeets.of_X tabX_ok (avs:=[.p (.v (.string s)) (nlv _),valY v]) [(0,.p (.v (.string s)) (nlv _)),(1,valY v)] (by kernel_rfl) Tryz.func25 rfl (by simp [PuL,Pu,valT]) (rfl) rfl rfl ?_
 intro B w0
 conv=>whnf
 refine .ct ?_
 conv=>whnf
 refine CallG.mk (encode_X _ hn.i64) rfl ?_
 conv=>whnf
 refine bS (fun hc1=>?_) (fun hc1=>?_)
 ·try simp only [bls] at hc1
  conv=>whnf
  refine FinG.mk none ?_ zqR
  simp only [outs,zqL,fr_by1]
  rw [rkS_f (by simp_all [checkN_0]; done)]
 ·try simp only [bls] at hc1
  conv=>whnf
  refine RegG.par 6 (by kernel_rfl) ?_
  conv=>whnf
  refine CallG.mk (named2_T _ (by first | assumption | omega)) rfl ?_
  conv=>whnf
  refine ⟨_,rfl,?_⟩
  conv=>whnf
  refine ⟨by have:=encV_len v; simp only [strOfNums_size,nmS_len]; omega,?_⟩
  conv=>whnf
  refine FinG.mk none ?_ zqR
  simp only [outs,zqL,fr_by1]
  rw [rkS_t (by simp_all [checkN_0]; done)]
set_option maxRecDepth 20000 in
theorem rk12_T (s : ByteArray) (v : Val) (hs : s.size ≤ 140737488355328) (hn : v.Ok) (ho : rightB v = true) : XMeets Tryz.prog 24 [.v (.string s),valT v] (.p (.v (.string (rkS s v))) (nlv _)):=by
 refine XMeets.of_X tabX_ok (avs:=[.p (.v (.string s)) (nlv _),valY v]) [(0,.p (.v (.string s)) (nlv _)),(1,valY v)] (by kernel_rfl) Tryz.func24 rfl (by simp [PuL,Pu,valT]) (rfl) rfl rfl ?_
 intro B w0
 conv=>whnf
 refine ⟨by show 1 + s.size ≤ _; omega,?_⟩
 conv=>whnf
 refine ⟨by rw [ByteArray.size_append]; show 1 + s.size + 1 ≤ _; omega,?_⟩
 conv=>whnf
 refine .ct ?_
 conv=>whnf
 refine CallG.mk (bytes5_X _ hn.i64 ho) rfl ?_
 conv=>whnf
 refine ⟨_,rfl,?_⟩
 conv=>whnf
 refine ⟨by have:=encB_len ho; simp only [strOfNums_size,ByteArray.size_append]; show 1 + s.size + 1 + _ ≤ _; omega,?_⟩
 conv=>whnf
 refine FinG.mk none ?_ zqR
 simp only [outs,zqL,fr_by1]
 rw [rkS_b ho]
 rfl
end Go.Proofs.YtpgfhkbnngjegaaGreatDoor
