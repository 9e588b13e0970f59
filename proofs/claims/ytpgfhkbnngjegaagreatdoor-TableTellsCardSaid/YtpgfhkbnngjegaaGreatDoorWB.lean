/- Rows put to those of a table. No condition. -/
import Derived.Test.YtpgfhkbnngjegaaGreatDoorT29
import Derived.Test.YtpgfhkbnngjegaaGreatDoorW9
import Derived.Test.YtpgfhkbnngjegaaGreatDoorW7
import Derived.Test.YtpgfhkbnngjegaaGreatDoorT34
namespace Go.Proofs.YtpgfhkbnngjegaaGreatDoor
open Go.RowKit
set_option linter.unusedVariables false
set_option linter.unusedSimpArgs false
section
variable {P : Program} {B : Nat} {w0 : World} {T : Tab} {n : Nat} {e : Env} {h : List XLB} {gs : Frames} {K : KK}
theorem RowOp.app (O : TabOk P T) {o : Oper} {s x : Operand} {t e0 e1 : TypeId} {i j da sz sz1 : Nat} {els ys els' : List (List TV)} {hpe : NlLL els} {hpy : NlLL ys} (hg : o.guard = none) (ho : o.op = .call { callee:=.builtin .append,args:=#[s,x],argTypes:=#[t,t] })
  (hd : o.dst = some da) (hxi : xev n e s = .row i) (hxj : xev n e x = .row j) (hi : hget h i = .row e0 sz els hpe) (hj : hget h j = .row e1 sz1 ys hpy) (he : els ++ ys = els') (hp' : NlLL els')
  (hh : tyK T t fun ti=>isK ti.k 3 (zK T ti.el fun te z=>isK z.cells.size te.n (posK te.n (posK te.by_ (isK e0 ti.el (isK sz te.n (ApOk te.n ys∧(els.length + ys.length) * te.by_ ≤ 140737488355328))))))) : RowOp P B w0 n e h o i da (.row e0 sz els' hp'):=fun gh g sH hs hop=>by
 obtain ⟨ti,ht,hh⟩:=tyK_ok O hh
 obtain ⟨hk3,hh⟩:=isK_ok hh
 obtain ⟨te,z,hte,hz,hh⟩:=zK_ok O hh
 obtain ⟨hzs,hh⟩:=isK_ok hh
 obtain ⟨hn,hh⟩:=posK_ok hh
 obtain ⟨hb,hh⟩:=posK_ok hh
 obtain ⟨h2,hh⟩:=isK_ok hh
 obtain ⟨h3,hap,hbd⟩:=isK_ok hh
 subst h2 h3
 have hA : ApTy P t ti te:=⟨ht,hk3,hte,⟨z,hz,hzs⟩,hn,hb⟩
 have hi2 : hf (h.map XLB.den) i = .row ti.el te.n els:=by rw [← hget_den,hi]; rfl
 have hj2 : hf (h.map XLB.den) j = .row e1 sz1 ys:=by rw [← hget_den,hj]; rfl
 have es:=xev_den (n:=n) (e:=e) (x:=s)
 have ex:=xev_den (n:=n) (e:=e) (x:=x)
 rw [hxi] at es
 rw [hxj] at ex
 have o1:=hop s (by simp [ho,Op.operands,Call.operands])
 have o2:=hop x (by simp [ho,Op.operands,Call.operands])
 refine TL.append (σ:=⟨sH,h.map XLB.den,g⟩) hg ho rfl hA (i:=i) (els:=els) (ys:=ys) ?_ hi2 (.inr (.inl ⟨j,e1,sz1,?_,hj2⟩)) (fun c hc=>(hap c hc).1) (fun c hc=>(hap c hc).2) hbd ?_
 ·show tev sH s = _
  rw [o1,← es]; rfl
 ·show tev sH x = _
  rw [o2,← ex]; rfl
 ·rw [hd]
  refine TL.nil ⟨rfl,?_⟩
  simp only [XLB.den]
  rw [hpe.k,hpy.k,he]
def keepX (i : Nat) : Nat→List XLB→List XLB
 | _,[]=>[]
 | k,b :: r=>(match Nat.beq k i with
  | true=>.none
  | false=>match noJB i b with
   | true=>b
   | false=>.none) :: keepX i (k + 1) r
theorem keepX_at (i : Nat) : ∀ (h : List XLB) (k j : Nat),hget (keepX i k h) j = .none∨(k + j ≠ i∧noJB i (hget h j) = true∧hget (keepX i k h) j = hget h j∧j < h.length)
 | [],k,j=>.inl rfl
 | b :: r,k,0=>by
  unfold keepX
  cases h1 : Nat.beq k i with
  | true=>exact .inl rfl
  | false=>
   cases h2 : noJB i b with
   | false=>exact .inl rfl
   | true=>exact .inr ⟨by simpa using Nat.ne_of_beq_eq_false h1,h2,rfl,by simp⟩
 | b :: r,k,j + 1=>by
  rcases keepX_at i r (k + 1) j with h1 | ⟨h1,h2,h3,h4⟩
  ·exact .inl h1
  ·exact .inr ⟨by omega,h2,h3,by simpa using h4⟩
theorem none_den {b : XLB} (h : b.den ≠ LB.none) : b ≠ .none:=fun e=>h (by rw [e]; rfl)
theorem keepX_sub (i : Nat) (h : List XLB) : SubH ((keepX i 0 h).map XLB.den) (h.map XLB.den)∧∀ j,hf ((keepX i 0 h).map XLB.den) j ≠ .none→j ≠ i∧(hf ((keepX i 0 h).map XLB.den) j).kp (bar i) = hf ((keepX i 0 h).map XLB.den) j:=by
 refine ⟨fun j hj=>?_,fun j hj=>?_⟩ <;> rw [← hget_den (keepX i 0 h) j] at hj <;> rcases keepX_at i h 0 j with h1 | ⟨h1,h2,h3,h4⟩
 ·exact absurd h1 (none_den hj)
 ·rw [← hget_den (keepX i 0 h) j,h3]; exact ⟨by simpa using h4,(hget_den h j).symm⟩
 ·exact absurd h1 (none_den hj)
 ·rw [← hget_den (keepX i 0 h) j,h3]; exact ⟨by omega,noJB_ok h2⟩
def XPq (P : Program) (T : Tab) (n i : Nat) (h0 : List XLB) : List Oper→Env→(Env→Prop)→Prop
 | [],e,k=>k e
 | o :: r,e,k=>match o.guard with
  | some _=>False
  | none=>match o.op.operands.toList.all fun x=>noI i (xev n e x) with
   | false=>False
   | true=>XS P T n h0 e o.op fun v new=>match new with
    | some _=>False
    | none=>match noI i v with
     | false=>False
     | true=>putK n e o.dst v fun e'=>XPq P T n i h0 r e' k
theorem XPq_ok (O : TabOk P T) {i : Nat} {h0 : List XLB} {K : List TV→Prop} : ∀ {l : List Oper} {e : Env} {k : Env→Prop},XPq P T n i h0 l e k→(∀ e,k e→K (toL n e))→TPq P B w0 i (h0.map XLB.den) l (toL n e) K
 | [],e,k,hh,hk=>hk _ hh
 | o :: r,e,k,hh,hk=>by
  unfold XPq at hh
  split at hh
  ·exact hh.elim
  ·rename_i hg
   split at hh
   ·exact hh.elim
   ·rename_i hop
    obtain ⟨v,new,hs,hh⟩:=XS_ok (B:=B) (w0:=w0) O hh
    split at hh
    ·exact hh.elim
    ·split at hh
     ·exact hh.elim
     ·rename_i hv
      obtain ⟨e',he,hh⟩:=putK_ok hh
      refine ⟨v.den,hg,hs,fun x hx=>?_,noI_ok hv,?_⟩
      ·rw [← xev_den]
       exact noI_ok (List.all_eq_true.1 hop x hx)
      ·have:=XPq_ok O hh hk
       rw [he] at this
       exact this
theorem RegG.wr2 {l : List Oper} (m k da i : Nat) {o : Oper} (hB : appB l m k da = true) (hon : l[m]? = some o) (hg : o.guard = none)
  (hx : XP P T n l (l.take m) e h fun e1 h1=>XPq P T n i (keepX i 0 h) ((l.drop (m + 1)).take k) e1 fun e2=>∃ row : XLB,RowOp P B w0 n e2 h1 o i da row∧turnK (kpX i) e2 h1 gs fun e' h' gs'=>setK h' i row fun h''=>putK n e' (some da) (.row i) fun e''=>XL P B w0 T n l (l.drop (m + 1 + k)) e'' h'' gs' K) : RegG P B w0 T n l e h gs K:=.ta fun O gh Q hq=>by
 refine TA.appH (σ:=xst n e h gs) (h0:=(keepX i 0 h).map XLB.den) m k da hB hon (i:=i) hg (keepX_sub i h).1 (keepX_sub i h).2 ?_
 refine XP_ok O hx fun e1 h1 hh1=>?_
 refine XPq_ok O hh1 fun e2 hh2=>?_
 obtain ⟨row,hr,hh⟩:=hh2
 refine ⟨row.den,fun sH hs ho=>hr gh _ sH (by rw [hs]; exact toL_len n e2) ho,?_⟩
 have hh:=setK_ok (k:=fun h''=>putK n _ (some da) (.row i) fun e''=>XL P B w0 T n l (l.drop (m + 1 + k)) e'' h'' _ K) (turnK_ok hh)
 obtain ⟨e'',he',hh⟩:=putK_ok hh
 have:=XL_ok O l.toArray gh Q (by simpa using hh) hq
 have e4 : xst n e'' ((h1.map (mapB (kpX i))).set i row) (mapG (kpX i) gs) = ⟨(kpL (bar i) (toL n e2)).set da (.row i),((h1.map XLB.den).map (LB.kp (bar i))).set i row.den,kpL (bar i) (xst n e h gs).g⟩:=by
  simp only [xst,he',toL_kp,List.map_set,hmap_kp,denG_kp,XV.den]
  rfl
 rw [e4] at this
 exact this
theorem XT.unfocE {c : Code} {K : XQ} (i : Nat) (els' : List (List TV)) (hp' : NlLL els') {ty : TypeId} {sz : Nat} {pre post : List (List TV)} {hpr : NlLL pre} {hpo : NlLL post} {cs : List XV} (hi : hget h i = .rowF ty sz pre hpr cs post hpo)
  (hx : nlK cs fun ts ht=>pre ++ ts :: post = els'∧setK h i (.row ty sz els' hp') fun h'=>XT P B w0 n c e h' gs K) : XT P B w0 n c e h gs K:=⟨fun gh Q hq=>by
 obtain ⟨ts,hts,e3,he,hx⟩:=nlK_ok hx
 have hx:=setK_ok (k:=fun h'=>XT P B w0 n c e h' gs K) hx
 have h1:=hx.ok gh Q hq
 have e1 : xst n e (h.set i (.row ty sz els' hp')) gs = xst n e h gs:=by
  simp only [xst]
  rw [hset_den (by rw [hi]; simp only [XLB.den,e3,he])]
 rwa [e1] at h1⟩
end
end Go.Proofs.YtpgfhkbnngjegaaGreatDoor

namespace Go.Proofs.YtpgfhkbnngjegaaGreatDoor
open Go.RowKit
set_option linter.unusedVariables false
set_option linter.unusedSimpArgs false
theorem qwb0 {p : Prop} (h : p:=by
 refine ⟨?_,?_,?_⟩
 ·refine leEnv_app (by kernel_rfl) (by kernel_rfl) ?_
  repeat ((conv=>whnf); first | exact True.intro | refine ⟨.rfl,?_⟩ | refine ⟨.any,?_⟩ | refine ⟨.nil,?_⟩ | refine ⟨.int (by first | rfl | omega | (simp only [wrs]; omega)),?_⟩)
 ·repeat (first | exact LeVs.nil | ((conv=>whnf); first | exact True.intro | exact .none | exact .ext | exact .row rfl | exact .rowF rfl rfl rfl | exact .rowF (mixT_0 _).symm rfl (mixT_0 _).symm | exact .rowF (mixT_set (take_at ht1 hk)) rfl rfl | exact .rowF (by rw [mixT_e2 (by rw [List.length_take]; omega) (by rw [List.length_take]; omega)]) rfl (by rw [show k + 1 - fndI s x - 1 = 0 by omega]) | exact .rowF rfl rfl (by rw [show k + 1 - fndI s x - 1 = k - fndI s x - 1 + 1 by omega]; exact mixT_set (drop_at ht1 hk0.1)) | refine .cells ?_ | refine ⟨_,_,rfl,.rfl,?_⟩ | refine ⟨_,_,rfl,.any,?_⟩ | refine ⟨_,_,rfl,.nil,?_⟩ | refine ⟨_,_,rfl,.int (by first | rfl | omega | (simp only [wrs]; omega)),?_⟩ | refine ⟨?_,?_⟩))
  done
 ·exact LeFr.same (by kernel_rfl)) : p:=h
theorem qwb1 {p : Prop} (h : p:=by
 refine ⟨?_,?_,?_⟩
 ·refine leEnv_app (by kernel_rfl) (by kernel_rfl) ?_
  repeat ((conv=>whnf); first | exact True.intro | refine ⟨.rfl,?_⟩ | refine ⟨.any,?_⟩ | refine ⟨.nil,?_⟩ | refine ⟨.int (by first | rfl | omega | (simp only [wrs]; omega)),?_⟩)
 ·repeat (first | exact LeVs.nil | ((conv=>whnf); first | exact True.intro | exact .none | exact .ext | exact .row rfl | exact .rowF rfl rfl rfl | refine .cells ?_ | refine ⟨_,_,rfl,.rfl,?_⟩ | refine ⟨_,_,rfl,.any,?_⟩ | refine ⟨_,_,rfl,.nil,?_⟩ | refine ⟨_,_,rfl,.int (by first | rfl | omega | (simp only [wrs]; omega)),?_⟩ | refine ⟨?_,?_⟩))
  done
 ·exact LeFr.same (by kernel_rfl)) : p:=h
theorem qwb2 {p : Prop} (h : p:=by
 conv=>whnf
 refine FinG.mk none ?_ zqR
 simp only [outs,zqL,fr_by1,fr_rw,fr_tb,fr_dc,fr_vl,fr_cl,tblZ,List.map_nil]) : p:=h
theorem qwb3 {p : Prop} (h : p:=by
 conv=>whnf
 refine ⟨(q + 1),⟨by omega,(by first | exact noEq_s hN (by omega) ha0 ha1 (by first | assumption | omega) | exact noEq_z (by omega))⟩,by omega,?_⟩
 exact qwb1) : p:=h
theorem qwb4 {p : Prop} (h : p:=by
 conv=>whnf
 refine ⟨(Sum.inr (k + 1)),(show fndI s x < k + 1∧k + 1 ≤ s.length by omega),(show s.length - (k + 1) < s.length - k by omega),?_⟩
 exact qwb0) : p:=h
set_option maxRecDepth 20000
def tbR (t : Tbl) (p : List (List Val)) : Tbl:=⟨t.n,t.c,p⟩
/-- What comes of rows put to those of a table (stay), or in their place. -/
def filR (s : List Tbl) (x : ByteArray) (l : List (List Val)) (stay : Bool) : List Tbl × Int:=match fndO s x with
  | none=>([],(thrN s x).2)
  | some t=>if l.all (rowB t.c) = true then (match putL (keyI t.c) (if stay = true then t.r else []) l with
    | none=>([],5)
    | some p=>if p.length ≤ 40 then (s.set (fndI s x) (tbR t p),0) else ([],6)) else ([],222)
theorem fil_0 {s : List Tbl} {x : ByteArray} {l : List (List Val)} {stay : Bool} (h : fndO s x = none) : filR s x l stay = ([],(thrN s x).2):=by rw [filR,h]
theorem fil_r {s : List Tbl} {x : ByteArray} {l : List (List Val)} {stay : Bool} {t : Tbl} (h : fndO s x = some t) (h1 : l.all (rowB t.c) = false) : filR s x l stay = ([],222):=by rw [filR,h]; simp [h1]
theorem fil_n {s : List Tbl} {x : ByteArray} {l : List (List Val)} {stay : Bool} {t : Tbl} (h : fndO s x = some t) (h1 : l.all (rowB t.c) = true) (h2 : putL (keyI t.c) (if stay = true then t.r else []) l = none) : filR s x l stay = ([],5):=by rw [filR,h]; simp [h1,h2]
theorem fil_f {s : List Tbl} {x : ByteArray} {l p : List (List Val)} {stay : Bool} {t : Tbl} (h : fndO s x = some t) (h1 : l.all (rowB t.c) = true) (h2 : putL (keyI t.c) (if stay = true then t.r else []) l = some p) (h3 : (40 : Int) < p.length) : filR s x l stay = ([],6):=by rw [filR,h]; simp [h1,h2,show ¬ p.length ≤ 40 by omega]
theorem fil_t {s : List Tbl} {x : ByteArray} {l p : List (List Val)} {stay : Bool} {t : Tbl} (h : fndO s x = some t) (h1 : l.all (rowB t.c) = true) (h2 : putL (keyI t.c) (if stay = true then t.r else []) l = some p) (h3 : (p.length : Int) ≤ 40) : filR s x l stay = (s.set (fndI s x) (tbR t p),0):=by rw [filR,h]; simp [h1,h2,show p.length ≤ 40 by omega]
theorem foc_eq {s : List Tbl} {i : Nat} {t : Tbl} (b b2 b3 : Bool) (h : s[i]? = some t) : s.map (tbC b b2 b3) = (s.take i).map (tbC b b2 b3) ++ tbC b b2 b3 t :: (s.drop (i + 1)).map (tbC b b2 b3):=by
  obtain ⟨hk,rfl⟩:=List.getElem?_eq_some_iff.1 h
  rw [← List.map_cons,← List.map_append,← List.drop_eq_getElem_cons hk,List.take_append_drop]
theorem set_eq {s : List Tbl} {i : Nat} {t t2 : Tbl} (b b2 b3 : Bool) (h : s[i]? = some t) : (s.set i t2).map (tbC b b2 b3) = (s.take i).map (tbC b b2 b3) ++ tbC b b2 b3 t2 :: (s.drop (i + 1)).map (tbC b b2 b3):=by
  obtain ⟨hk,rfl⟩:=List.getElem?_eq_some_iff.1 h
  rw [List.set_eq_take_append_cons_drop,if_pos hk,List.map_append,List.map_cons]
theorem take_at {s : List Tbl} {i k : Nat} {t : Tbl} (h : s[k]? = some t) (hk : k < i) : (s.take i)[k]? = some t:=by rw [List.getElem?_take_of_lt hk,h]
theorem drop_at {s : List Tbl} {i k : Nat} {t : Tbl} (h : s[k]? = some t) (hk : i < k) : (s.drop (i + 1))[k - i - 1]? = some t:=by rw [List.getElem?_drop,show i + 1 + (k - i - 1) = k by omega,h]
theorem all_of {c : List Dfn} {l : List (List Val)} {k : Nat} (h : noP (fun r=>!rowB c r) l k) (hk : (l.length : Int) ≤ k) : l.all (rowB c) = true:=by
  rw [List.all_eq_true]
  intro r hr
  obtain ⟨j,hj,rfl⟩:=List.getElem_of_mem hr
  have:=h j _ (by omega) (List.getElem?_eq_getElem hj)
  simpa using this
theorem all_no {c : List Dfn} {l : List (List Val)} {k : Nat} {r : List Val} (h : l[k]? = some r) (h1 : rowB c r = false) : l.all (rowB c) = false:=by
  rw [List.all_eq_false]
  exact ⟨r,List.mem_of_getElem? h,by simp [h1]⟩
theorem swo_key (key : Int) : Sort.SWO (ltOf fun a b : List Val=>cmpV (vAt a key) (vAt b key)):=by
  refine ⟨fun x=>?_,fun x y z h h2=>?_,fun x y z h h2=>?_⟩ <;> unfold ltOf at *
  · exact decide_eq_false (cmpV_irr _)
  · simp only [decide_eq_true_eq] at *
    exact cmpV_trans h h2
  · simp only [decide_eq_false_iff_not] at *
    intro h3
    by_cases h4 : vAt x key = vAt y key
    · rw [h4] at h3; exact h2 h3
    · exact h2 (cmpV_trans (cmpV_tri h h4) h3)
theorem noEq_z {key : Int} {l : List (List Val)} {q : Nat} (h : q = 0) : noEq key l (q + 1):=by subst h; exact noEq_1 _
theorem rows_rise {s : List Tbl} {x : ByteArray} {t : Tbl} (h : fndO s x = some t) : Rise (keyI t.c) t.r:=by
  have h1:=(sto_F (fndO_mem h).1).2 t (fndO_mem h).2
  unfold tabB at h1
  simp only [Bool.and_eq_true,decide_eq_true_eq] at h1
  exact (rowsB_iff2.1 h1.2).2
theorem vAt_get {r : List Val} {i : Int} (h0 : 0 ≤ i) (h1 : i < r.length) : r[i.toNat]? = some (vAt r i):=by
  unfold vAt
  have : i.toNat < r.length:=by omega
  rw [List.getElem?_eq_getElem this]; rfl
theorem cmp_by {c : List Dfn} {L : List (List Val)} (h0 : 0 ≤ keyI c) (h1 : keyI c < c.length) (hw : ∀ r ∈ L,rowB c r = true) (C : Cx) (x y : List Val) (u v : Value) (gk : Nat) (hx : x ∈ L) (hy : y ∈ L) (hu : Dn C (.sl true (x.map vlC)) u) (hv : Dn C (.sl true (y.map vlC)) v)
    (hk : C.w.cell? ⟨gk,0,none⟩ = some (.int .i64 (max (keyI c) 0))) : Calls Tryz.prog 126 #[u,v,.pointer (some ⟨gk,0,none⟩)] C.w fun e w'=>e = .returned (.int .i64 (cmpV (vAt x (keyI c)) (vAt y (keyI c))))∧GQ C.w w':=by
  rw [show max (keyI c) 0 = ((keyI c).toNat : Int) by omega] at hk
  have hlx:=rowB_len (hw x hx)
  have hly:=rowB_len (hw y hy)
  exact byQ (keyI c).toNat C x y _ _ u v gk (vAt_get h0 (by omega)) (vAt_get h0 (by omega)) hu hv hk
theorem row_all {c : List Dfn} {l : List (List Val)} (h : l.all (rowB c) = true) {m : List (List Val)} (hm : ∀ r ∈ m,rowB c r = true) : ∀ r ∈ m ++ l,rowB c r = true:=fun r hr=>(List.mem_append.1 hr).elim (hm r) (List.all_eq_true.1 h r)
set_option maxRecDepth 20000 in
theorem by_T (b b2 : Bool) (x y : List Val) (k : Int) (v0 v1 : Val) (h0 : 0 ≤ k) (hx : x[k.toNat]? = some v0) (hy : y[k.toNat]? = some v1) : XMeets Tryz.prog 126 [.sl b (x.map vlC),.sl b2 (y.map vlC),.eptr [.v (.int .i64 k)]] (.p (.v (.int .i64 (cmpV v0 v1))) (nlv _)):=by
 refine XMeets.of_X tabX_ok (avs:=[.p (.sl false (x.map vlC)) (nl_vl _).sl,.p (.sl false (y.map vlC)) (nl_vl _).sl,.p (.eptr [.v (.int .i64 k)]) (NlL.cons (nlv _) .nil).eptr]) [(0,.p (.sl false (x.map vlC)) (nl_vl _).sl),(1,.p (.sl false (y.map vlC)) (nl_vl _).sl),(2,.p (.eptr [.v (.int .i64 k)]) (NlL.cons (nlv _) .nil).eptr)] (by kernel_rfl) Tryz.func126 rfl (by simp [PuL,Pu,tbT,stT,tbC,rwC,vlC,dfC,pu_vl,pu_dc,pu_rw,pu_tb]) (by simp only [untagL,untag,tbT,stT,tbC,rwC,vlC,dfC,untag_vl,untag_dc,untag_rw,untag_tb]; rfl) rfl rfl ?_
 intro B w0
 conv=>whnf
 refine RegG.par 10 (by kernel_rfl) ?_
 conv=>whnf
 refine IdxG.mk (j:=k.toNat) (c:=vlC v0) (by rw [List.getElem?_map,hx]; rfl) (by omega) ?_
 conv=>whnf
 refine ⟨rfl,?_⟩
 conv=>whnf
 refine IdxG.mk (j:=k.toNat) (c:=vlC v1) (by rw [List.getElem?_map,hy]; rfl) (by omega) ?_
 conv=>whnf
 refine ⟨rfl,?_⟩
 conv=>whnf
 refine CallG.mk (compare_X _ _) rfl ?_
 exact qwb2
set_option maxHeartbeats 4000000 in
set_option maxRecDepth 20000 in
theorem fillS_T (b b1 b2 b3 d d2 : Bool) (s : List Tbl) (x : ByteArray) (l : List (List Val)) (hs : ∀ t ∈ s,t.In) (hn : s.length ≤ 100000) (hl : l.length ≤ 100000) (hlr : ∀ r ∈ l,r.length ≤ 100000) (R : List Tbl × Int) (hR : R = filR s x l true) : XMeets Tryz.prog 88 [stT b b1 b2 b3 s,.v (.string x),.sl d (l.map (rwC d2)),.v (.bool true)] (.tu [.ag [.ow 25 3 ((R.1).map (tbC true true true)) (nl_tb _ _ _ _)],.p (.v (.int .i64 (R.2))) (nlv _)]):=by
 refine XMeets.of_XM [(20,.p (.v (.bool true)) (nlv _))] tabX_ok (avs:=[.ag [.p (.sl false (s.map (tbC false false false))) (nl_tb _ _ _ _).sl],.p (.v (.string x)) (nlv _),.p (.sl false (l.map (rwC false))) (nl_rw _ _).sl,.p (.v (.bool true)) (nlv _)]) [(0,.ag [.p (.sl false (s.map (tbC false false false))) (nl_tb _ _ _ _).sl]),(1,.p (.v (.string x)) (nlv _)),(2,.p (.sl false (l.map (rwC false))) (nl_rw _ _).sl),(3,.p (.v (.bool true)) (nlv _))] (by kernel_rfl) Tryz.func88 rfl (by simp [PuL,Pu,tbT,stT,tbC,rwC,vlC,dfC,pu_vl,pu_dc,pu_rw,pu_tb]) (by simp only [untagL,untag,tbT,stT,tbC,rwC,vlC,dfC,untag_vl,untag_dc,untag_rw,untag_tb]; rfl) rfl rfl ?_
 intro B w0
 rcases fnd_cases s x with ⟨h1,h2⟩ | ⟨t,h1,h2,h3,h4,h5,h6⟩
 ·rw [fil_0 h2] at hR
  subst hR
  conv=>whnf
  refine .ct ?_
  conv=>whnf
  refine CallG.mk (there_T _ _ _ _ _ _ hs (by first | assumption | omega)) rfl ?_
  conv=>whnf
  refine bT zqS ?_
  exact qwb2
 ·have hF:=fnd_tab h6
  have hFr:=hF.r
  have hin:=hs _ (List.mem_of_getElem? h4)
  have h7 : (thrN s x).2 = 0:=by rw [h1]
  have h8 : (thrN s x).1 = (fndI s x : Int):=by rw [h1]
  have hIl:=(List.getElem?_eq_some_iff.1 h4).1
  conv=>whnf
  refine .ct ?_
  conv=>whnf
  refine CallG.mk (there_T _ _ _ _ _ _ hs (by first | assumption | omega)) rfl ?_
  conv=>whnf
  refine bF zqS ?_
  conv=>whnf
  refine .inl ?_
  conv=>whnf
  refine InlG.mk (by kernel_rfl) Tryz.func83 rfl (Nat.le_of_ble_eq_true rfl) (XT.of tabX_ok ?_)
  conv=>whnf
  refine .ct ?_
  conv=>whnf
  refine .cl (els:=s.map (tbC false false false)) (nl_tb _ _ _ _) clone_tbl rfl (tb_len _ _ _ _) (tb_one _ _ _ _) (by simp only [List.length_map]; omega) ?_
  conv=>whnf
  refine XT.foc 4 ((s.take (fndI s x)).map (tbC false false false)) (tbC false false false t) ((s.drop (fndI s x + 1)).map (tbC false false false)) (nl_tb _ _ _ _) (nl_tb1 _ _ _ _) (nl_tb _ _ _ _) rfl (foc_eq _ _ _ h4) ?_
  conv=>whnf
  refine XT.loopN tabX_ok (Y:=Nat ⊕ Nat) [3,6,9,11,12,13,14,15,16,17,18,19,20,21,22,23,24] (fun y=>[(11,match y with | .inl k=>.p (.v (.int .i64 ((k : Int)))) (nlv _) | .inr k=>.p (.v (.int .i64 ((k : Int)))) (nlv _))]) (fun y=>[(4,match y with | .inl k=>.rowF 25 3 (mixT (s.take (fndI s x)) k) (nl_mixT _ _) [.p (.v (.string (t.n))) (nlv _),.p (.sl false (t.c.map dfC)) (nl_dc _).sl,.p (.sl false (t.r.map (rwC false))) (nl_rw _ _).sl] (mixT (s.drop (fndI s x + 1)) 0) (nl_mixT _ _) | .inr k=>.rowF 25 3 ((s.take (fndI s x)).map (tbC true true true)) (nl_tb _ _ _ _) [.p (.v (.string (t.n))) (nlv _),.p (.sl true (t.c.map dfC)) (nl_dc _).sl,.row 5] (mixT (s.drop (fndI s x + 1)) (k - fndI s x - 1)) (nl_mixT _ _))]) (fun y=>match y with | .inl _=>[] | .inr _=>[.row 38 1 (t.r.map (rwC true)) (nl_rw _ _)]) (fun y=>match y with | .inl k=>k ≤ fndI s x | .inr k=>fndI s x < k∧k ≤ s.length) (fun y=>match y with | .inl k=>s.length - k | .inr k=>s.length - k) (Sum.inl 0) (Nat.zero_le _) ?_ ?_
  ·exact qwb0
  ·rintro y hinv
   rcases y with k | k
   ·have hk0 : k ≤ fndI s x:=hinv
    have hpl : (mixT (s.take (fndI s x)) k).length = fndI s x:=by rw [mixT_len (by rw [List.length_take]; omega),List.length_take]; omega
    rcases Nat.lt_or_eq_of_le hk0 with hk | hk
    ·conv=>whnf
     refine bT (decide_eq_true (by rw [List.length_map]; omega)) ?_
     conv=>whnf
     refine RegG.par 10 (by kernel_rfl) ?_
     conv=>whnf
     refine ⟨_,rfl,?_⟩
     conv=>whnf
     refine ⟨by omega,?_⟩
     conv=>whnf
     refine .pre ?_
     conv=>whnf
     obtain ⟨t1,ht1⟩ : ∃ x,s[k]? = some x:=⟨_,List.getElem?_eq_getElem (by omega)⟩; have hin1:=hs _ (List.mem_of_getElem? ht1); refine IdxG.mk (j:=k) (c:=tbC false false false t1) (mixT_at (take_at ht1 hk)) rfl ?_
     conv=>whnf
     refine CallG.mk (own_T _ _ _ _ hin1) rfl ?_
     conv=>whnf
     refine ⟨_,rfl,?_⟩
     conv=>whnf
     refine ⟨by omega,?_⟩
     conv=>whnf
     refine .frz ?_
     conv=>whnf
     refine .pre ?_
     conv=>whnf
     refine IdxG.mk (j:=k) (c:=tbC false false false t1) (mixT_at (take_at ht1 hk)) rfl ?_
     conv=>whnf
     refine ⟨rfl,?_⟩
     conv=>whnf
     refine ⟨(Sum.inl (k + 1)),(show k + 1 ≤ fndI s x by omega),(show s.length - (k + 1) < s.length - k by omega),?_⟩
     exact qwb0
    ·conv=>whnf
     refine bT zqS ?_
     conv=>whnf
     refine RegG.par 10 (by kernel_rfl) ?_
     conv=>whnf
     refine ⟨_,rfl,?_⟩
     conv=>whnf
     refine ⟨by omega,?_⟩
     conv=>whnf
     refine .foc (by omega) ?_
     conv=>whnf
     refine CallG.mk (own_T _ _ _ _ hin) rfl ?_
     conv=>whnf
     refine ⟨_,rfl,?_⟩
     conv=>whnf
     refine ⟨by omega,?_⟩
     conv=>whnf
     refine .keep ?_
     conv=>whnf
     refine .foc (by omega) ?_
     exact qwb4
   ·have hk0 : fndI s x < k∧k ≤ s.length:=hinv
    have hpl : ((s.take (fndI s x)).map (tbC true true true)).length = fndI s x:=by rw [List.length_map,List.length_take]; omega
    have hql : (mixT (s.drop (fndI s x + 1)) (k - fndI s x - 1)).length = s.length - fndI s x - 1:=by rw [mixT_len (by rw [List.length_drop]; omega),List.length_drop]; omega
    conv=>whnf
    refine bS (fun hc1=>?_) (fun hc1=>?_)
    ·try simp only [bls] at hc1
     conv=>whnf
     refine RegG.par 10 (by kernel_rfl) ?_
     conv=>whnf
     refine ⟨_,rfl,?_⟩
     conv=>whnf
     refine ⟨by simp only [bls]; omega,?_⟩
     conv=>whnf
     refine .post (k - fndI s x - 1) (by omega) ?_
     conv=>whnf
     obtain ⟨t1,ht1⟩ : ∃ x,s[k]? = some x:=⟨_,List.getElem?_eq_getElem (by omega)⟩; have hin1:=hs _ (List.mem_of_getElem? ht1); refine IdxG.mk (j:=k - fndI s x - 1) (c:=tbC false false false t1) (mixT_at (drop_at ht1 hk0.1)) rfl ?_
     conv=>whnf
     refine CallG.mk (own_T _ _ _ _ hin1) rfl ?_
     conv=>whnf
     refine ⟨_,rfl,?_⟩
     conv=>whnf
     refine ⟨by simp only [bls]; omega,?_⟩
     conv=>whnf
     refine .frz ?_
     conv=>whnf
     refine .post (k - fndI s x - 1) (by omega) ?_
     conv=>whnf
     refine IdxG.mk (j:=k - fndI s x - 1) (c:=tbC false false false t1) (mixT_at (drop_at ht1 hk0.1)) rfl ?_
     conv=>whnf
     refine ⟨rfl,?_⟩
     exact qwb4
    ·try simp only [bls] at hc1
     conv=>whnf
     refine ⟨.inr rfl,?_⟩
     conv=>whnf
     refine ⟨_,(Int.toNat_of_nonneg (by omega)).symm,?_⟩
     conv=>whnf
     refine ⟨by simp only [bls]; omega,?_⟩
     conv=>whnf
     refine InlG.mk (by kernel_rfl) Tryz.func124 rfl (Nat.le_of_ble_eq_true rfl) (XT.of tabX_ok ?_)
     conv=>whnf
     refine InlG.mk (by kernel_rfl) Tryz.func128 rfl (Nat.le_of_ble_eq_true rfl) (XT.of tabX_ok ?_)
     conv=>whnf
     refine XT.loop tabX_ok (Y:=Nat) [4,5,8,9,10,11,12,13,14,15,16,17,18] (fun j=>[(8,.p (.v (.int .i64 (j))) (nlv _))]) (fun j=>[]) (fun j=>j ≤ l.length∧noP (fun r=>!rowB t.c r) l j) (fun j=>l.length - j) 0 ⟨Nat.zero_le _,noP_0⟩ ?_ ?_
     ·exact qwb1
     ·rintro j ⟨hj,hP⟩
      conv=>whnf
      refine bS (fun hc2=>?_) (fun hc2=>?_)
      ·try simp only [bls] at hc2
       conv=>whnf
       refine IdxG.map (l:=l) j rfl (by first | omega | (simp only [List.length_map] at *; omega)) ?_; intro r1 hr1 hnr1; have hrl1:=hlr _ (List.mem_of_getElem? hr1)
       conv=>whnf
       refine ⟨rfl,?_⟩
       conv=>whnf
       refine InlG.mk (by kernel_rfl) Tryz.func125 rfl (Nat.le_of_ble_eq_true rfl) (XT.of tabX_ok ?_)
       conv=>whnf
       refine .foc (by omega) ?_
       conv=>whnf
       refine .ct ?_
       conv=>whnf
       refine CallG.mk (fits_T _ _ _ _ t _ hin.cn hrl1) rfl ?_
       conv=>whnf
       refine ⟨.inr rfl,?_⟩
       conv=>whnf
       refine bS (fun hc3=>?_) (fun hc3=>?_)
       ·try simp only [bls] at hc3
        conv=>whnf
        refine ⟨.inr rfl,?_⟩
        conv=>whnf
        refine ⟨.inr rfl,?_⟩
        conv=>whnf
        refine FinG.mk none ?_ zqR
        simp only [outs,zqL,fr_by1,fr_rw,fr_tb,fr_dc,fr_vl,fr_cl,tblZ,List.map_nil]
        rw [hR,fil_r h6 (all_no hr1 hc3)]
        exact ⟨rfl,rfl⟩
       ·try simp only [bls] at hc3
        conv=>whnf
        refine ⟨(j + 1),⟨by omega,noP_s hP hr1 (by simp_all)⟩,by omega,?_⟩
        exact qwb1
      ·try simp only [bls] at hc2
       have hall : l.all (rowB t.c) = true:=all_of hP (by simpa using hc2)
       conv=>whnf
       refine ⟨.inr rfl,?_⟩
       conv=>whnf
       refine ⟨.inr rfl,?_⟩
       conv=>whnf
       refine RegG.perm [1,2,3,4,5,6,7,0,8,9,10] (by kernel_rfl) ?_
       refine RegG.wr2 6 1 49 5 (by kernel_rfl) rfl rfl ?_
       conv=>whnf
       refine .foc (by omega) ?_
       conv=>whnf
       refine CallG.mk (copied_T _ _ _ (by first | assumption | omega) (by assumption)) rfl ?_
       conv=>whnf
       refine ⟨_,RowOp.app tabX_ok rfl rfl rfl rfl rfl rfl rfl (els':=(t.r ++ l).map (rwC true)) (by rw [List.map_append]) (nl_rw _ _) (by (conv=>whnf); exact ⟨fun c hc=>⟨rw_len _ _ c hc,rw_one _ _ c hc⟩,by have:=hF.r; simp only [List.length_map]; omega⟩),?_⟩
       conv=>whnf
       refine .keep ?_
       conv=>whnf
       refine .foc (by omega) ?_
       conv=>whnf
       refine .foc (by omega) ?_
       conv=>whnf
       refine .ct ?_
       conv=>whnf
       refine CallG.mk (key_T _ _ _ (tbR t (t.r ++ l)) hin.cn) rfl ?_
       conv=>whnf
       refine .foc (by omega) ?_
       conv=>whnf
       refine .wr (WCall.sort sortC (β:=List Val) (t:=fun x=>.sl true (x.map vlC)) (l:=t.r ++ l) (cf:=fun a b=>cmpV (vAt a (keyI t.c)) (vAt b (keyI t.c))) (enters_of Tryz.func126 (by kernel_rfl) rfl) (swo_key _) rfl rfl (by have:=hF.r; simp only [List.length_append,List.length_nil]; omega) (fun _ _=>rfl) (fun x=>(nl_vl _).sl) (cmp_by hF.k0 hF.k1 (row_all hall hF.w)) ?_)
       intro p hpm hps
       have hwp : ∀ r ∈ p,rowB t.c r = true:=fun r hr=>row_all hall hF.w r (hpm.mem_iff.1 hr)
       have hplen : p.length = (t.r ++ l).length:=hpm.length_eq
       simp only [List.length_append,List.length_nil] at hplen
       conv=>whnf
       refine .foc (by omega) ?_
       conv=>whnf
       refine XT.loop tabX_ok (Y:=Nat) [9,16,71,72,73,74,75,76,77,78,79,80,81,82,83,84,85,86,87,88,89,90,91,92,93,94,95,96,97] (fun q=>[(71,.p (.v (.int .i64 (q))) (nlv _))]) (fun q=>[]) (fun q=>q ≤ p.length∧noEq (keyI t.c) p q) (fun q=>p.length - q) 0 ⟨Nat.zero_le _,noEq_0 _⟩ ?_ ?_
       ·exact qwb1
       ·rintro q ⟨hq,hN⟩
        conv=>whnf
        refine bS (fun hc4=>?_) (fun hc4=>?_)
        ·try simp only [bls] at hc4
         conv=>whnf
         refine RegG.par 22 (by kernel_rfl) ?_
         conv=>whnf
         refine bS (fun hc5=>?_) (fun hc5=>?_)
         ·try simp only [bls] at hc5
          conv=>whnf
          refine bT zqS ?_
          conv=>whnf
          refine bT zqS ?_
          conv=>whnf
          refine bT zqS ?_
          conv=>whnf
          refine bT zqS ?_
          conv=>whnf
          refine .foc (by omega) ?_
          conv=>whnf
          refine bT zqS ?_
          conv=>whnf
          refine bT zqS ?_
          conv=>whnf
          refine bT zqS ?_
          conv=>whnf
          rw [show IntKind.i64.wrap ((↑q : Int) - 1) = ((↑q : Int) - 1) from wz.1 _ (by omega) (by omega)]
          conv=>whnf
          refine ⟨_,(Int.toNat_of_nonneg (by omega)).symm,?_⟩
          conv=>whnf
          refine ⟨by simp only [bls]; omega,?_⟩
          conv=>whnf
          refine bT zqS ?_
          conv=>whnf
          refine IdxG.map (l:=p) (q - 1) (by omega) (by first | omega | (simp only [List.length_map] at *; omega)) ?_; intro a0 ha0 hna0; have hla0:=rowB_len (hwp _ (List.mem_of_getElem? ha0)); have hkc0:=hF.k0; have hkc1:=hF.k1
          conv=>whnf
          refine bT zqS ?_
          conv=>whnf
          refine bT zqS ?_
          conv=>whnf
          refine bT zqS ?_
          conv=>whnf
          refine bT zqS ?_
          conv=>whnf
          refine .foc (by omega) ?_
          conv=>whnf
          refine bT zqS ?_
          conv=>whnf
          refine bT zqS ?_
          conv=>whnf
          refine ⟨_,rfl,?_⟩
          conv=>whnf
          refine ⟨by simp only [bls]; omega,?_⟩
          conv=>whnf
          refine bT zqS ?_
          conv=>whnf
          refine IdxG.map (l:=p) q (by omega) (by first | omega | (simp only [List.length_map] at *; omega)) ?_; intro a1 ha1 hna1; have hla1:=rowB_len (hwp _ (List.mem_of_getElem? ha1)); have hkc0:=hF.k0; have hkc1:=hF.k1
          conv=>whnf
          refine bT zqS ?_
          conv=>whnf
          refine CallG.mk (by_T _ _ a0 a1 (max (keyI t.c) 0) (vAt a0 (keyI t.c)) (vAt a1 (keyI t.c)) (by omega) (by rw [show (max (keyI t.c) 0).toNat = (keyI t.c).toNat by omega]; exact vAt_get hkc0 (by omega)) (by rw [show (max (keyI t.c) 0).toNat = (keyI t.c).toNat by omega]; exact vAt_get hkc0 (by omega))) rfl ?_
          conv=>whnf
          refine bT zqS ?_
          conv=>whnf
          refine bT zqS ?_
          conv=>whnf
          refine bS (fun hc6=>?_) (fun hc6=>?_)
          ·try simp only [bls] at hc6
           conv=>whnf
           refine FinG.mk none ?_ zqR
           simp only [outs,zqL,fr_by1,fr_rw,fr_tb,fr_dc,fr_vl,fr_cl,tblZ,List.map_nil]
           have he:=sort_none (rows_rise h6) hpm (j:=q - 1) ha0 (by rw [show q - 1 + 1 = q by omega]; exact ha1) (by assumption)
           rw [hR,fil_n h6 hall (by simpa using he)]
           exact ⟨rfl,rfl⟩
          ·try simp only [bls] at hc6
           exact qwb3
         ·try simp only [bls] at hc5
          conv=>whnf
          refine bF zqS ?_
          conv=>whnf
          refine bF zqS ?_
          conv=>whnf
          refine bF zqS ?_
          conv=>whnf
          refine bF zqS ?_
          conv=>whnf
          refine bF zqS ?_
          conv=>whnf
          refine bF zqS ?_
          conv=>whnf
          refine bF zqS ?_
          conv=>whnf
          refine bF zqS ?_
          conv=>whnf
          refine bF zqS ?_
          conv=>whnf
          refine bF zqS ?_
          conv=>whnf
          refine bF zqS ?_
          conv=>whnf
          refine bF zqS ?_
          conv=>whnf
          refine bF zqS ?_
          conv=>whnf
          refine bF zqS ?_
          conv=>whnf
          refine bF zqS ?_
          conv=>whnf
          refine bF zqS ?_
          conv=>whnf
          refine bF zqS ?_
          conv=>whnf
          refine bF zqS ?_
          exact qwb3
        ·try simp only [bls] at hc4
         conv=>whnf
         refine XT.freeze 5 ?_
         conv=>whnf
         refine XT.unfocE 4 ((s.set (fndI s x) (tbR t p)).map (tbC true true true)) (nl_tb _ _ _ _) rfl ?_
         conv=>whnf
         refine ⟨by rw [set_eq _ _ _ h4,mixT_e2 (by rw [List.length_drop]; omega) (by rw [List.length_drop]; omega)]; rfl,?_⟩
         conv=>whnf
         refine XT.pass tabX_ok ?_
         conv=>whnf
         refine XT.pass tabX_ok ?_
         conv=>whnf
         refine IdxG.mk (j:=fndI s x) (c:=tbC true true true (tbR t p)) (by rw [List.getElem?_map,List.getElem?_set_self hIl]; rfl) (by omega) ?_
         conv=>whnf
         refine bS (fun hc7=>?_) (fun hc7=>?_)
         ·try simp only [bls] at hc7
          conv=>whnf
          refine FinG.mk none ?_ zqR
          simp only [outs,zqL,fr_by1,fr_rw,fr_tb,fr_dc,fr_vl,fr_cl,tblZ,List.map_nil]
          have hqe : q = p.length:=by omega
          have he:=sort_some (rows_rise h6) hpm hps (hqe ▸ hN)
          have h40 : (40 : Int) < p.length:=by simpa [tbR] using hc7
          rw [hR,fil_f h6 hall (by simpa using he) h40]
          exact ⟨rfl,rfl⟩
         ·try simp only [bls] at hc7
          conv=>whnf
          refine FinG.mk (some 4) ?_ (by rintro _ ⟨⟩; trivial)
          simp only [outs,zqL,fr_by1,fr_rw,fr_tb,fr_dc,fr_vl,fr_cl,tblZ,List.map_nil]
          have hqe : q = p.length:=by omega
          have he:=sort_some (rows_rise h6) hpm hps (hqe ▸ hN)
          have h40 : (p.length : Int) ≤ 40:=by simpa [tbR] using hc7
          rw [hR,fil_t h6 hall (by simpa using he) h40]
          and_intros <;> first | rfl | exact fr_tb _
end Go.Proofs.YtpgfhkbnngjegaaGreatDoor
