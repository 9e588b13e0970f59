/- A drawn region with one operation that takes a local row and hands it back; loads from other blocks beside it. Condition: the edges that the text says. -/
import Derived.Test.YtpgfhkbnngjegaaGreatDoorTS
import Derived.Test.YtpgfhkbnngjegaaGreatDoorSrt
import Derived.Test.YtpgfhkbnngjegaaGreatDoorTD
import Derived.Test.YtpgfhkbnngjegaaGreatDoorW9
import Derived.Test.YtpgfhkbnngjegaaGreatDoorT20
namespace Go.Proofs.YtpgfhkbnngjegaaGreatDoor
open Go.RowKit Go.Shelf Go.Sort
set_option linter.unusedVariables false
set_option linter.unusedSimpArgs false
theorem sortC : SortC Tryz.prog 127:=⟨by kernel_rfl,fun α _ enc cf g cb blk cap d w h1 hO hg hc hH hb hs=>Any.slices_SortFunc Tryz.sortRows enc h1 cf hO g cb blk 0 cap d w hg hc hH hb hs,fun p cap fv w=>AnyF.slices_SortFunc_none { Tryz.sortRows with } p cap fv w⟩
end Go.Proofs.YtpgfhkbnngjegaaGreatDoor

namespace Go.Proofs.YtpgfhkbnngjegaaGreatDoor
open Go.RowKit
set_option linter.unusedVariables false
set_option linter.unusedSimpArgs false
theorem qwa0 {p : Prop} (h : p:=by
 refine ⟨?_,?_,?_⟩
 ·refine leEnv_app (by kernel_rfl) (by kernel_rfl) ?_
  repeat ((conv=>whnf); first | exact True.intro | refine ⟨.rfl,?_⟩ | refine ⟨.any,?_⟩ | refine ⟨.nil,?_⟩ | refine ⟨.int (by first | rfl | omega | (simp only [wrs]; omega)),?_⟩)
 ·repeat (first | exact LeVs.nil | ((conv=>whnf); first | exact True.intro | exact .none | exact .ext | exact .row rfl | refine .cells ?_ | refine ⟨_,_,rfl,.rfl,?_⟩ | refine ⟨_,_,rfl,.any,?_⟩ | refine ⟨_,_,rfl,.nil,?_⟩ | refine ⟨_,_,rfl,.int (by first | rfl | omega | (simp only [wrs]; omega)),?_⟩ | refine ⟨?_,?_⟩))
  done
 ·exact LeFr.nil) : p:=h
theorem qwa1 {p : Prop} (h : p:=by
 conv=>whnf
 refine bT zqS ?_
 conv=>whnf
 refine FinG.mk none ?_ zqR
 simp only [outs,zqL,fr_by1,fr_rw,fr_tb,fr_dc,fr_vl,fr_cl]) : p:=h
theorem qwa2 {p : Prop} (h : p:=by
 simp only [outs,zqL,fr_by1,fr_rw,fr_tb,fr_dc,fr_vl,fr_cl,tblZ,List.map_nil]
 simp; done) : p:=h
set_option maxRecDepth 20000
def insT (s : List Tbl) (i : Nat) (t : Tbl) : List Tbl:=s.take i ++ [t] ++ s.drop i
/-- What Create makes. -/
def creR (s : List Tbl) (t : Tbl) : List Tbl × Int:=
  if stoB s = true then (if tabB t = true then (if fndB s t.n = true then ([],5) else if s.length = 4 then ([],6) else (insT s (fndI s t.n) t,0)) else ([],221)) else ([],220)
theorem cre_cases (s : List Tbl) (t : Tbl) : (stoB s = false∧creR s t = ([],220))∨(stoB s = true∧tabB t = false∧creR s t = ([],221))∨(stoB s = true∧tabB t = true∧fndB s t.n = true∧creR s t = ([],5)) ∨
    (stoB s = true∧tabB t = true∧fndB s t.n = false∧s.length = 4∧creR s t = ([],6))∨(stoB s = true∧tabB t = true∧fndB s t.n = false∧s.length ≠ 4∧creR s t = (insT s (fndI s t.n) t,0)):=by
  unfold creR
  cases h1 : stoB s with
  | false=>simp
  | true=>
    cases h2 : tabB t with
    | false=>simp
    | true=>
      cases h3 : fndB s t.n with
      | true=>simp
      | false=>by_cases h4 : s.length = 4 <;> simp [h4]
/-- The table of a name; nothing: there is none. -/
def tblZ : Tbl:=⟨⟨#[]⟩,[],[]⟩
def fndO (s : List Tbl) (x : ByteArray) : Option Tbl:=if stoB s = true∧fndB s x = true then s[fndI s x]? else none
theorem fnd_cases (s : List Tbl) (x : ByteArray) : ((thrN s x).2 ≠ 0∧fndO s x = none)∨(∃ t,(thrN s x) = ((fndI s x : Int),0)∧stoB s = true∧fndB s x = true∧s[fndI s x]? = some t∧t.n = x∧fndO s x = some t):=by
  unfold thrN fndO
  cases h1 : stoB s with
  | false=>simp
  | true=>
    cases h2 : fndB s x with
    | false=>simp
    | true=>
      have h3:=h2
      unfold fndB at h3
      simp only [Bool.and_eq_true,decide_eq_true_eq] at h3
      have h4:=List.getElem?_eq_getElem h3.1
      refine .inr ⟨_,by simp,rfl,rfl,h4,?_,by simp [h4]⟩
      have h5:=(bsEq_t _ _).mp h3.2
      rw [nmAt_of h4] at h5
      exact bs_ext h5
def fndT (s : List Tbl) (x : ByteArray) : Tbl:=(fndO s x).getD tblZ
theorem fndO_mem {s : List Tbl} {x : ByteArray} {t : Tbl} (h : fndO s x = some t) : stoB s = true∧t ∈ s:=by
  unfold fndO at h
  split at h
  · rename_i h1; exact ⟨h1.1,List.mem_of_getElem? h⟩
  · cases h
theorem fndT_in {s : List Tbl} (hs : ∀ t ∈ s,t.In) (x : ByteArray) : (fndT s x).In:=by
  unfold fndT
  cases h : fndO s x with
  | none=>exact ⟨by show 0 ≤ 140737488355328; omega,fun d hd=>by simp [tblZ] at hd,by simp [tblZ],fun r hr=>by simp [tblZ] at hr,by simp [tblZ]⟩
  | some t=>exact hs _ (fndO_mem h).2
/-- The row of a key. -/
def getO (s : List Tbl) (x : ByteArray) (v : Val) : Option (List Val):=(fndT s x).r.find? fun r=>eqV (vAt r (keyI (fndT s x).c)) v
theorem fnd_tab {s : List Tbl} {x : ByteArray} {t : Tbl} (h : fndO s x = some t) : TabF t:=tab_F ((sto_F (fndO_mem h).1).2 t (fndO_mem h).2)
set_option maxRecDepth 20000 in
theorem create_T (b b1 b2 b3 d d2 d3 : Bool) (s : List Tbl) (t : Tbl) (hs : ∀ t ∈ s,t.In) (hn : s.length ≤ 100000) (ht : t.In) (R : List Tbl × Int) (hR : R = creR s t) : XMeets Tryz.prog 43 [stT b b1 b2 b3 s,tbT d d2 d3 t] (.tu [.ag [.ow 25 3 ((R.1).map (tbC true true true)) (nl_tb _ _ _ _)],.p (.v (.int .i64 (R.2))) (nlv _)]):=by
 refine XMeets.of_X tabX_ok (avs:=[.ag [.p (.sl false (s.map (tbC false false false))) (nl_tb _ _ _ _).sl],.ag [.p (.v (.string (t.n))) (nlv _),.p (.sl false (t.c.map dfC)) (nl_dc _).sl,.p (.sl false (t.r.map (rwC false))) (nl_rw _ _).sl]]) [(0,.ag [.p (.sl false (s.map (tbC false false false))) (nl_tb _ _ _ _).sl]),(1,.ag [.p (.v (.string (t.n))) (nlv _),.p (.sl false (t.c.map dfC)) (nl_dc _).sl,.p (.sl false (t.r.map (rwC false))) (nl_rw _ _).sl])] (by kernel_rfl) Tryz.func43 rfl (by simp [PuL,Pu,tbT,stT,tbC,rwC,vlC,dfC,pu_vl,pu_dc,pu_rw,pu_tb]) (by simp only [untagL,untag,tbT,stT,tbC,rwC,vlC,dfC,untag_vl,untag_dc,untag_rw,untag_tb]; rfl) rfl rfl ?_
 intro B w0
 rcases cre_cases s t with ⟨h1,hq⟩ | ⟨h1,h2,hq⟩ | ⟨h1,h2,h3,hq⟩ | ⟨h1,h2,h3,h4,hq⟩ | ⟨h1,h2,h3,h4,hq⟩
 ·rw [hq] at hR
  subst hR
  conv=>whnf
  refine .ct ?_
  conv=>whnf
  refine CallG.mk (check_T _ _ _ _ _ hs hn) rfl ?_
  conv=>whnf
  refine .ct ?_
  conv=>whnf
  refine CallG.mk (find_T _ _ _ _ _ _ hs (by first | assumption | omega)) rfl ?_
  conv=>whnf
  refine bT zqS ?_
  conv=>whnf
  refine bT zqS ?_
  conv=>whnf
  refine FinG.mk none ?_ zqR
  simp only [outs,zqL,fr_by1,fr_rw,fr_tb,fr_dc,fr_vl,fr_cl]
  and_intros <;> first | rfl | (simp; done) | omega | (simp_all; done) | (simp_all; omega)
 ·rw [hq] at hR
  subst hR
  conv=>whnf
  refine .ct ?_
  conv=>whnf
  refine CallG.mk (check_T _ _ _ _ _ hs hn) rfl ?_
  conv=>whnf
  refine .ct ?_
  conv=>whnf
  refine CallG.mk (find_T _ _ _ _ _ _ hs (by first | assumption | omega)) rfl ?_
  conv=>whnf
  refine bF zqS ?_
  conv=>whnf
  refine .ct ?_
  conv=>whnf
  refine CallG.mk (checkT_T _ _ _ _ ht) rfl ?_
  exact qwa1
 ·rw [hq] at hR
  subst hR
  conv=>whnf
  refine .ct ?_
  conv=>whnf
  refine CallG.mk (check_T _ _ _ _ _ hs hn) rfl ?_
  conv=>whnf
  refine .ct ?_
  conv=>whnf
  refine CallG.mk (find_T _ _ _ _ _ _ hs (by first | assumption | omega)) rfl ?_
  conv=>whnf
  refine bF zqS ?_
  conv=>whnf
  refine .ct ?_
  conv=>whnf
  refine CallG.mk (checkT_T _ _ _ _ ht) rfl ?_
  conv=>whnf
  refine bF zqS ?_
  exact qwa1
 ·rw [hq] at hR
  subst hR
  conv=>whnf
  refine .ct ?_
  conv=>whnf
  refine CallG.mk (check_T _ _ _ _ _ hs hn) rfl ?_
  conv=>whnf
  refine .ct ?_
  conv=>whnf
  refine CallG.mk (find_T _ _ _ _ _ _ hs (by first | assumption | omega)) rfl ?_
  conv=>whnf
  refine bF zqS ?_
  conv=>whnf
  refine .ct ?_
  conv=>whnf
  refine CallG.mk (checkT_T _ _ _ _ ht) rfl ?_
  conv=>whnf
  refine bF zqS ?_
  conv=>whnf
  refine bF zqS ?_
  exact qwa1
 ·rw [hq] at hR
  subst hR
  conv=>whnf
  refine .ct ?_
  conv=>whnf
  refine CallG.mk (check_T _ _ _ _ _ hs hn) rfl ?_
  conv=>whnf
  refine .ct ?_
  conv=>whnf
  refine CallG.mk (find_T _ _ _ _ _ _ hs (by first | assumption | omega)) rfl ?_
  conv=>whnf
  refine bF zqS ?_
  conv=>whnf
  refine .ct ?_
  conv=>whnf
  refine CallG.mk (checkT_T _ _ _ _ ht) rfl ?_
  conv=>whnf
  refine bF zqS ?_
  conv=>whnf
  refine bF zqS ?_
  conv=>whnf
  refine bF (decide_eq_false (by rw [List.length_map]; omega)) ?_
  conv=>whnf
  refine bF zqS ?_
  conv=>whnf
  refine .ct ?_
  conv=>whnf
  refine CallG.mk (owned_T _ _ _ _ _ hs (by first | assumption | omega)) rfl ?_
  conv=>whnf
  refine RegG.wr 6 1 44 3 (by kernel_rfl) rfl rfl ?_
  conv=>whnf
  refine CallG.mk (own_Z _ _ _ _ ht) rfl ?_
  conv=>whnf
  refine ⟨_,RowOp.ins insC_tbl (by kernel_rfl) rfl rfl rfl rfl rfl rfl rfl rfl rfl (by rw [List.length_map]; exact fndI_le _ _) (by rw [List.length_map]; omega) (tb_one _ _ _ _) rfl (els':=(insT s (fndI s t.n) t).map (tbC true true true)) (by simp [insT,tbC,List.map_append,List.map_take,List.map_drop]) (nl_tb _ _ _ _),?_⟩
  conv=>whnf
  refine FinG.mk (some 3) ?_ (by rintro _ ⟨⟩; trivial)
  simp only [outs,zqL,fr_by1,fr_rw,fr_tb,fr_dc,fr_vl,fr_cl]
theorem fndT_0 {s : List Tbl} {x : ByteArray} (h : fndO s x = none) : fndT s x = tblZ:=by rw [fndT,h]; rfl
theorem fndT_1 {s : List Tbl} {x : ByteArray} {t : Tbl} (h : fndO s x = some t) : fndT s x = t:=by rw [fndT,h]; rfl
set_option maxRecDepth 20000 in
theorem findT_T (b b1 b2 b3 : Bool) (s : List Tbl) (x : ByteArray) (hs : ∀ t ∈ s,t.In) (hn : s.length ≤ 100000) (R : Tbl) (o : Option Tbl) (ho : o = fndO s x) (hR : R = fndT s x) : XMeets Tryz.prog 70 [stT b b1 b2 b3 s,.v (.string x)] (.tu [.ag [.p (.v (.string (R.n))) (nlv _),.p (.sl true (R.c.map dfC)) (nl_dc _).sl,.ow 38 1 (R.r.map (rwC true)) (nl_rw _ _)],.p (.v (.bool (o.isSome))) (nlv _)]):=by
 refine XMeets.of_X tabX_ok (avs:=[.ag [.p (.sl false (s.map (tbC false false false))) (nl_tb _ _ _ _).sl],.p (.v (.string x)) (nlv _)]) [(0,.ag [.p (.sl false (s.map (tbC false false false))) (nl_tb _ _ _ _).sl]),(1,.p (.v (.string x)) (nlv _))] (by kernel_rfl) Tryz.func70 rfl (by simp [PuL,Pu,tbT,stT,tbC,rwC,vlC,dfC,pu_vl,pu_dc,pu_rw,pu_tb]) (by simp only [untagL,untag,tbT,stT,tbC,rwC,vlC,dfC,untag_vl,untag_dc,untag_rw,untag_tb]; rfl) rfl rfl ?_
 intro B w0
 rcases fnd_cases s x with ⟨h1,h2⟩ | ⟨t,h1,h2,h3,h4,h5,h6⟩
 ·rw [h2] at ho
  rw [fndT_0 h2] at hR
  subst hR ho
  conv=>whnf
  refine .ct ?_
  conv=>whnf
  refine CallG.mk (there_T _ _ _ _ _ _ hs (by first | assumption | omega)) rfl ?_
  conv=>whnf
  refine bT zqS ?_
  conv=>whnf
  refine FinG.mk none ?_ zqR
  exact qwa2
 ·rw [h6] at ho
  rw [fndT_1 h6] at hR
  subst hR ho
  have hin:=hs _ (List.mem_of_getElem? h4)
  have h7 : (thrN s x).2 = 0:=by rw [h1]
  conv=>whnf
  refine .ct ?_
  conv=>whnf
  refine CallG.mk (there_T _ _ _ _ _ _ hs (by first | assumption | omega)) rfl ?_
  conv=>whnf
  refine bF zqS ?_
  conv=>whnf
  refine IdxG.mk (j:=fndI s x) (c:=tbC false false false R) (by rw [List.getElem?_map,h4]; rfl) (by rw [h1]) ?_
  conv=>whnf
  refine ⟨rfl,?_⟩
  conv=>whnf
  refine .ct ?_
  conv=>whnf
  refine CallG.mk (own_T _ _ _ _ hin) rfl ?_
  conv=>whnf
  refine FinG.mk (some 2) ?_ (by rintro _ ⟨⟩; trivial)
  exact qwa2
theorem getO_t {s : List Tbl} {x : ByteArray} {v : Val} {k : Nat} {r : List Val} (h : noP (fun r=>eqV (vAt r (keyI (fndT s x).c)) v) (fndT s x).r k) (hr : (fndT s x).r[k]? = some r) (h1 : eqV (vAt r (keyI (fndT s x).c)) v = true) : getO s x v = some r:=by
  unfold getO
  obtain ⟨hk,rfl⟩:=List.getElem?_eq_some_iff.1 hr
  rw [List.find?_eq_some_iff_getElem]
  exact ⟨h1,k,hk,rfl,fun j hj=>by have:=h j _ hj (List.getElem?_eq_getElem (by omega)); simp [this]⟩
theorem getO_f {s : List Tbl} {x : ByteArray} {v : Val} {k : Nat} (h : noP (fun r=>eqV (vAt r (keyI (fndT s x).c)) v) (fndT s x).r k) (h1 : ((fndT s x).r.length : Int) ≤ k) : getO s x v = none:=by
  unfold getO
  rw [List.find?_eq_none]
  intro r hr
  obtain ⟨j,hj,rfl⟩:=List.getElem_of_mem hr
  have:=h j _ (by omega) (List.getElem?_eq_getElem hj)
  simp [this]
theorem fndT_some {s : List Tbl} {x : ByteArray} {k : Nat} {r : List Val} (h : (fndT s x).r[k]? = some r) : ∃ t,fndO s x = some t:=by
  cases h1 : fndO s x with
  | some t=>exact ⟨t,rfl⟩
  | none=>rw [fndT_0 h1] at h; simp [tblZ] at h
set_option maxRecDepth 20000 in
theorem get_T (b b1 b2 b3 : Bool) (s : List Tbl) (x : ByteArray) (v : Val) (hs : ∀ t ∈ s,t.In) (hn : s.length ≤ 100000) (R : List Val) (o : Bool) (ho : o = (getO s x v).isSome) (hR : R = (getO s x v).getD []) : XMeets Tryz.prog 46 [stT b b1 b2 b3 s,.v (.string x),valT v] (.tu [.p (.sl true (R.map vlC)) (nl_vl _).sl,.p (.v (.bool (o))) (nlv _)]):=by
 refine XMeets.of_X tabX_ok (avs:=[.ag [.p (.sl false (s.map (tbC false false false))) (nl_tb _ _ _ _).sl],.p (.v (.string x)) (nlv _),valY v]) [(0,.ag [.p (.sl false (s.map (tbC false false false))) (nl_tb _ _ _ _).sl]),(1,.p (.v (.string x)) (nlv _)),(2,valY v)] (by kernel_rfl) Tryz.func46 rfl (by simp [PuL,Pu,tbT,stT,tbC,rwC,vlC,dfC,pu_vl,pu_dc,pu_rw,pu_tb,valT]) (by simp only [untagL,untag,tbT,stT,tbC,rwC,vlC,dfC,valT,untag_vl,untag_dc,untag_rw,untag_tb]; rfl) rfl rfl ?_
 intro B w0
 have hin:=fndT_in hs x
 have hrn:=hin.rn
 have hcn:=hin.cn
 conv=>whnf
 refine .ct ?_
 conv=>whnf
 refine CallG.mk (findT_T _ _ _ _ _ _ hs hn _ _ rfl rfl) rfl ?_
 conv=>whnf
 refine .ct ?_
 conv=>whnf
 refine CallG.mk (key_T _ _ _ _ hcn) rfl ?_
 conv=>whnf
 refine XT.loop tabX_ok (Y:=Nat) [6,7,13,28,29,30,31,32,33,34,35,36,37,38,39,40,41,42] (fun k=>[(28,.p (.v (.int .i64 (k))) (nlv _))]) (fun k=>[]) (fun k=>k ≤ (fndT s x).r.length∧noP (fun r=>eqV (vAt r (keyI (fndT s x).c)) v) (fndT s x).r k) (fun k=>(fndT s x).r.length - k) 0 ⟨Nat.zero_le _,noP_0⟩ ?_ ?_
 ·exact qwa0
 ·rintro k ⟨hk,hP⟩
  conv=>whnf
  refine bS (fun hc1=>?_) (fun hc1=>?_)
  ·try simp only [bls] at hc1
   conv=>whnf
   refine ⟨_,rfl,?_⟩
   conv=>whnf
   refine ⟨by simp only [bls]; omega,?_⟩
   conv=>whnf
   refine IdxG.map (l:=(fndT s x).r) k rfl (by first | omega | (simp only [List.length_map] at *; omega)) ?_; intro r1 hr1 hnr1; have hm1:=List.mem_of_getElem? hr1; obtain ⟨t,ht⟩:=fndT_some hr1; have hF:=fnd_tab ht; have htt:=fndT_1 ht; have hky:=key_at hF (htt ▸ hm1); rw [← htt] at hky; have hk0:=hF.k0; rw [← htt] at hk0; obtain ⟨v1,hv1⟩ : ∃ v1,r1[(keyI (fndT s x).c).toNat]? = some v1:=⟨_,List.getElem?_eq_getElem hky⟩; have hsm : (fndO s x).isSome = true:=by rw [ht]; rfl
   conv=>whnf
   refine RegG.par 9 (by kernel_rfl) ?_
   conv=>whnf
   refine bT zqS ?_
   conv=>whnf
   refine bT zqS ?_
   conv=>whnf
   refine bT zqS ?_
   conv=>whnf
   refine IdxG.mk (j:=(keyI (fndT s x).c).toNat) (c:=vlC v1) (by rw [List.getElem?_map,hv1]; rfl) (by omega) ?_
   conv=>whnf
   refine ⟨rfl,?_⟩
   conv=>whnf
   refine bT zqS ?_
   conv=>whnf
   refine bT zqS ?_
   conv=>whnf
   refine bT zqS ?_
   conv=>whnf
   refine BinG.mk rfl rfl (eqVal_run _ _ _ _ _ _ _ _) ?_
   conv=>whnf
   refine bT zqS ?_
   conv=>whnf
   refine bS (fun hc2=>?_) (fun hc2=>?_)
   ·try simp only [bls] at hc2
    conv=>whnf
    refine FinG.mk none ?_ zqR
    simp only [outs,zqL,fr_by1,fr_rw,fr_tb,fr_dc,fr_vl,fr_cl,tblZ,List.map_nil]
    rw [hR,ho,getO_t hP hr1 (by rw [vAt_of hv1]; first | assumption | simp_all)]
    simp
   ·try simp only [bls] at hc2
    conv=>whnf
    refine ⟨(k + 1),⟨by omega,noP_s hP hr1 (by rw [vAt_of hv1]; first | assumption | simp_all)⟩,by omega,?_⟩
    exact qwa0
  ·try simp only [bls] at hc1
   conv=>whnf
   refine FinG.mk none ?_ zqR
   simp only [outs,zqL,fr_by1,fr_rw,fr_tb,fr_dc,fr_vl,fr_cl,tblZ,List.map_nil]
   rw [hR,ho,getO_f hP (by omega)]
   simp
end Go.Proofs.YtpgfhkbnngjegaaGreatDoor

namespace Go.Proofs.YtpgfhkbnngjegaaGreatDoor
open Go.RowKit
set_option linter.unusedVariables false
set_option linter.unusedSimpArgs false
def SubH (h0 h : List LB) : Prop:=∀ j,hf h0 j ≠ .none→j < h.length∧hf h j = hf h0 j
theorem TStep.weakH {P : Program} {B : Nat} {w0 : World} {h0 h : List LB} {s : List TV} {o : Oper} {tv : TV} (hc : SubH h0 h) (H : TStep P B w0 h0 s o tv none) : TStep P B w0 h s o tv none:=by
 intro ρ h' w a HSh _ R hx K Q hK
 refine H ρ h' w a (fun i hi hne=>?_) (fun h=>by cases h) R hx K Q fun u w' ρ' R' KK hb hd=>hK u w' ρ' R' KK hb hd
 obtain ⟨h1,h2⟩:=hc i hne
 have:=HSh i h1 (by rw [h2]; exact hne)
 rwa [h2] at this
theorem SubH.addO {h0 h : List LB} (hc : SubH h0 h) (new : Option LB) : SubH h0 (addO h new):=fun j hj=>by
 obtain ⟨h1,h2⟩:=hc j hj
 cases new with
 | none=>exact ⟨h1,h2⟩
 | some x=>
  refine ⟨by simp [Go.Proofs.YtpgfhkbnngjegaaGreatDoor.addO]; omega,?_⟩
  rw [← h2]
  simp [Go.Proofs.YtpgfhkbnngjegaaGreatDoor.addO,hf,List.getD,List.getElem?_append_left h1]
def TPq (P : Program) (B : Nat) (w0 : World) (i : Nat) (h0 : List LB) : List Oper→List TV→(List TV→Prop)→Prop
 | [],s,K=>K s
 | o :: rest,s,K=>∃ tv,o.guard = none∧TStep P B w0 h0 s o tv none∧(∀ x ∈ o.op.operands.toList,kp (bar i) (tev s x) = tev s x)∧kp (bar i) tv = tv∧TPq P B w0 i h0 rest (putO s o.dst tv) K
section
variable {P : Program} {B : Nat} {w0 : World} {gh : List Value} {l : List Oper} {h0 : List LB}
theorem tpq_facts {i : Nat} : ∀ (rest : List Oper) (s : List TV) (K : List TV→Prop),TPq P B w0 i h0 rest s K →
  ∃ (S : Nat→List TV) (V : Nat→TV),S 0 = s∧K (S rest.length)∧∀ p o,rest[p]? = some o→o.guard = none∧TStep P B w0 h0 (S p) o (V p) none∧(∀ x ∈ o.op.operands.toList,kp (bar i) (tev (S p) x) = tev (S p) x)∧kp (bar i) (V p) = V p∧S (p + 1) = putO (S p) o.dst (V p)
 | [],s,K,hp=>⟨fun _=>s,fun _=>.any,rfl,hp,fun p o h=>(by simp at h)⟩
 | o :: rest,s,K,⟨tv,h1,h2,h3,h4,h5⟩=>by
  obtain ⟨S,V,e1,e2,e3⟩:=tpq_facts rest _ K h5
  refine ⟨fun p=>match p with | 0=>s | p + 1=>S p,fun p=>match p with | 0=>tv | p + 1=>V p,rfl,e2,fun p o' ho=>?_⟩
  cases p with
  | zero=>
   simp only [List.getElem?_cons_zero,Option.some.injEq] at ho
   subst ho
   exact ⟨h1,h2,h3,h4,e1⟩
  | succ p=>
   simp only [List.getElem?_cons_succ] at ho
   exact e3 p o' ho
theorem runs_joinq {m2 : List Oper} {i : Nat} {K : List TV→List LB→Prop} : ∀ (m1 : List Oper) (s : List TV) (h : List LB),SubH h0 h→(TPar P B w0 l m1 s h fun s h=>TPq P B w0 i h0 m2 s fun s=>K s h) →
  ∃ (S : Nat→List TV) (H : Nat→List LB) (V : Nat→TV) (N : Nat→Option LB) (b : Nat→Bool),Runs P B w0 l (m1 ++ m2) S H V N b (fun _=>false)∧S 0 = s∧H 0 = h∧K (S (m1 ++ m2).length) (H (m1 ++ m2).length) ∧
   ∀ p o,m1.length ≤ p→(m1 ++ m2)[p]? = some o→o.guard = none∧TStep P B w0 h0 (S p) o (V p) none∧(∀ x ∈ o.op.operands.toList,kp (bar i) (tev (S p) x) = tev (S p) x)∧kp (bar i) (V p) = V p∧N p = none∧b p = true
 | [],s,h,hsub,hp=>by
  obtain ⟨S,V,e1,e2,e3⟩:=tpq_facts m2 s _ hp
  refine ⟨S,fun _=>h,V,fun _=>none,fun _=>true,⟨fun p o hpl ho=>?_⟩,e1,rfl,by simpa using e2,fun p o _ ho=>?_⟩
  ·obtain ⟨h1,h2,h3,h4,h5⟩:=e3 p o (by simpa using ho)
   exact ⟨by simp [Wants,h1],fun _ _=>h2.weakH hsub,fun h=>(by cases h),h5,rfl⟩
  ·obtain ⟨h1,h2,h3,h4,h5⟩:=e3 p o (by simpa using ho)
   exact ⟨h1,h2,h3,h4,rfl,rfl⟩
 | o :: m1,s,h,hsub,⟨tv,new,b0,h1,h2,h3,h4⟩=>by
  obtain ⟨S,H,V,N,b,e1,e2,e3,e4,e5⟩:=runs_joinq m1 _ _ (hsub.addO new) h4
  refine ⟨fun i=>match i with | 0=>s | i + 1=>S i,fun i=>match i with | 0=>h | i + 1=>H i,fun i=>match i with | 0=>tv | i + 1=>V i,fun i=>match i with | 0=>new | i + 1=>N i,fun i=>match i with | 0=>b0 | i + 1=>b i,⟨fun p o' hpl ho=>?_⟩,rfl,rfl,e4,fun p o' hpl ho=>?_⟩
  ·cases p with
   | zero=>
    simp only [List.cons_append,List.getElem?_cons_zero,Option.some.injEq] at ho
    subst ho
    exact ⟨h1,fun hb _=>h2 hb,h3,e2,e3⟩
   | succ p=>
    simp only [List.cons_append,List.getElem?_cons_succ] at ho
    exact e1.step p o' (by simpa using hpl) ho
  ·cases p with
   | zero=>simp at hpl
   | succ p=>
    simp only [List.cons_append,List.getElem?_cons_succ] at ho
    exact e5 p o' (by simpa using hpl) ho
theorem TA.appH {Q : Exit→St→Prop} {σ : St} (n k da : Nat) (hB : appB l n k da = true) {o : Oper} (hon : l[n]? = some o) {i : Nat} (hg : o.guard = none) (hsub : SubH h0 σ.h) (hkp : ∀ j,hf h0 j ≠ .none→j ≠ i∧(hf h0 j).kp (bar i) = hf h0 j)
  (h : TPar P B w0 l (l.take n) σ.s σ.h fun s h=>TPq P B w0 i h0 ((l.drop (n + 1)).take k) s fun s=>∃ new : LB,(∀ sH : List TV,sH.length = s.length→(∀ y,y ∈ o.op.operands.toList→tev sH y = tev s y)→TL P B w0 gh #[] [o] ⟨sH,h,σ.g⟩ (fun e σ'=>e = .normal∧σ' = (⟨(kpL (bar i) sH).set da (.row i),(h.map (LB.kp (bar i))).set i new,kpL (bar i) σ.g⟩ : St))) ∧
   TL P B w0 gh l.toArray (l.drop (n + 1 + k)) ⟨(kpL (bar i) s).set da (.row i),(h.map (LB.kp (bar i))).set i new,kpL (bar i) σ.g⟩ Q) : TA P B w0 gh l.toArray σ Q:=fun ρ a w hr=>by
 obtain ⟨m1,hm1⟩ : ∃ m1,l.take n = m1:=⟨_,rfl⟩
 obtain ⟨m2,hm2⟩ : ∃ m2,(l.drop (n + 1)).take k = m2:=⟨_,rfl⟩
 unfold appB at hB
 rw [hm1,hm2] at hB h
 simp only [Bool.and_eq_true,Bool.or_eq_true,decide_eq_true_eq,hon] at hB
 obtain ⟨⟨⟨⟨⟨⟨hb,hnk⟩,hp⟩,hcov⟩,hda⟩,hod⟩,htail⟩:=hB
 obtain ⟨hod1,hod2⟩:=hod
 have hodst : o.dst = some da:=by simpa using hod1
 have hl1 : m1.length = n:=by rw [← hm1]; simp; omega
 have hl2 : m2.length = k:=by rw [← hm2]; simp; omega
 obtain ⟨S,H,V,N,b,R,e1,e2,⟨newB,hst,hT⟩,e5⟩:=runs_joinq (l:=l) m1 σ.s σ.h hsub h
 obtain ⟨m,hmm⟩ : ∃ m,m1 ++ m2 = m:=⟨_,rfl⟩
 rw [hmm] at R hst hT e5 hp hda
 have hml : m.length = n + k:=by rw [← hmm,List.length_append,hl1,hl2]
 have hix : ∀ p o,m[p]? = some o→l[ixA n p]? = some o:=fun p o' hpo=>by
  unfold ixA
  rw [← hmm] at hpo
  split
  ·rename_i hlt
   rw [List.getElem?_append_left (by omega),← hm1,List.getElem?_take_of_lt hlt] at hpo
   exact hpo
  ·rename_i hlt
   rw [List.getElem?_append_right (by omega),hl1,← hm2] at hpo
   have hpk : p - n < k:=by have:=(List.getElem?_eq_some_iff.1 hpo).1; simp at this; omega
   rw [List.getElem?_take_of_lt hpk,List.getElem?_drop] at hpo
   rw [show n + 1 + (p - n) = p + 1 by omega] at hpo
   exact hpo
 have hinj : ∀ p q,p < m.length→q < m.length→ixA n p = ixA n q→p = q:=fun p q _ _ e=>by unfold ixA at e; split at e <;> split at e <;> omega
 have hixn : ∀ p,ixA n p ≠ n:=fun p=>by unfold ixA; split <;> omega
 have hixlt : ∀ p,p < m.length→ixA n p < n + 1 + k:=fun p hp'=>by unfold ixA; split <;> omega
 have hixinv : ∀ j,j < n + 1 + k→j ≠ n→∃ p,p < m.length∧ixA n p = j:=fun j hj hjn=>by
  rcases Nat.lt_or_ge j n with h1 | h1
  ·exact ⟨j,by omega,by simp [ixA,h1]⟩
  ·exact ⟨j - 1,by omega,by unfold ixA; rw [if_neg (by omega)]; omega⟩
 have hSl:=R.slen m.length (Nat.le_refl _)
 have hS0 : (S 0).length = σ.s.length:=by rw [e1]
 -- the state behind the append
 obtain ⟨s3,hs3⟩ : ∃ s3,(kpL (bar i) (S m.length)).set da (.row i) = s3:=⟨_,rfl⟩
 obtain ⟨h3,hh3⟩ : ∃ h3,((H m.length).map (LB.kp (bar i))).set i newB = h3:=⟨_,rfl⟩
 have hH3 : ∀ q,hf h0 q ≠ .none→hf h3 q = hf h0 q:=fun q hq=>by
  obtain ⟨g1,g2⟩:=hsub q hq
  obtain ⟨g3,g4⟩:=hkp q hq
  have g5:=R.pre' (Nat.zero_le _) (Nat.le_refl _) (k:=q) (by rw [e2]; exact g1)
  rw [e2] at g5
  have g6 : q < (H m.length).length:=by
   rcases Nat.lt_or_ge q (H m.length).length with g7 | g7
   ·exact g7
   ·rw [hf_ge g7,g2] at g5; exact absurd g5.symm hq
  rw [← hh3]
  show (((H m.length).map (LB.kp (bar i))).set i newB).getD q .none = _
  rw [List.getD_eq_getElem?_getD,List.getElem?_set_ne (fun e=>g3 e.symm),List.getElem?_map]
  have g8 : (H m.length)[q]? = some (hf h0 q):=by
   have : hf (H m.length) q = hf h0 q:=g5.trans g2
   unfold hf at this
   rw [List.getD_eq_getElem?_getD,List.getElem?_eq_getElem g6] at this
   rw [List.getElem?_eq_getElem g6]
   exact congrArg some this
  rw [g8]
  exact g4
 rw [hs3,hh3] at hT
 rw [hh3] at hst
 have hs3l : s3.length = (S 0).length:=by rw [← hs3,List.length_set,kpL_len,hSl]
 have hs3at : ∀ t,t ≠ da→s3.getD t .any = kp (bar i) ((S m.length).getD t .any):=fun t ht=>by
  rw [← hs3,List.getD_eq_getElem?_getD,List.getElem?_set_ne (fun e=>ht e.symm),← List.getD_eq_getElem?_getD,kpL_getD]
 have hdam : ∀ p o',m[p]? = some o'→(da ∉ readsOf l o')∧o'.dst ≠ some da:=fun p o' hpo=>by
  have:=List.all_eq_true.1 hda o' (List.mem_of_getElem? hpo)
  simp only [Bool.and_eq_true,Bool.not_eq_true'] at this
  refine ⟨fun hmem=>?_,fun e=>?_⟩
  ·have h1 : (readsOf l o').contains da = true:=by simpa using hmem
   rw [h1] at this
   cases this.1
  ·simp [e] at this
 have hn' : n + 1 + k ≤ l.toArray.size:=by simpa using hnk
 have inv0 : HeadInv .any l.toArray (n + 1 + k) (Array.replicate l.toArray.size false):=
  ⟨by simp,fun j oj _ hl=>(by rw [getD_replicate_false] at hl; cases hl),fun t _ ht=>getD_in (by simpa using ht) (getD_replicate_false _ _)⟩
 have hno : ∀ listed,HeadInv .any l.toArray (n + 1 + k) listed→(∃ i,i < n + 1 + k∧listed.getD i true = false)→∀ t,n + 1 + k ≤ t→t ∉ Region.ready .any l.toArray listed:=by
  rcases htail with hnl | ⟨⟨⟨hlt,hs⟩,hc⟩,hq⟩
  ·intro listed _ _ t ht hr
   obtain ⟨_,o,ho,_⟩:=mem_ready.1 hr
   have:=(Array.getElem?_eq_some_iff.1 ho).1
   simp at this
   omega
  ·intro listed inv ⟨i,hi,hl⟩ t ht
   exact tail_waits hs hc (by simpa using hlt) inv (n + 1 + k - i) i rfl hi hl t ht
 have hbefore : ∀ {listed : Array Bool},HeadInv .any l.toArray (n + 1 + k) listed→listed.getD n false = true→∀ j,j < n→listed.getD j false = true:=fun {listed} inv hln j hj=>
  cov_listed hcov inv (fun o' ho' e he hbe=>inv.closed n o' (by simpa using ho') hln e he hbe) (n - j) j (by omega) (by omega)
 have key:=wpAny_inv (P:=P) (ops:=l.toArray) (Q:=liftQ B w0 gh Q) (n:=n + 1 + k) hb hn' hno
  (fun listed a w=>(listed.getD n false = false∧PI B w0 gh m (ixA n) S H V N σ.g listed a w)∨(listed.getD n false = true∧PB B w0 gh m n (ixA n) s3 h3 (kpL (bar i) σ.g) listed a w))
  (fun listed a w j inv hI hj hl hd=>by
   have hsize : listed.size = l.length:=by rw [inv.size]; simp
   have hjS : j < listed.size:=by omega
   have hljf : listed.getD j false = false:=by simp only [Array.getD,hjS,dite_true] at hl ⊢; exact hl
   rcases hI with ⟨hln,hI⟩ | ⟨hln,hI⟩
   ·by_cases hjn : j = n
    ·-- the append itself
     subst hjn
     have hall : ∀ q,q < j→listed.getD q false = true:=fun q hq=>cov_listed hcov inv (fun o' ho' e he hbe=>hd o' (by simpa using ho') e he hbe) (j - q) q (by omega) (by omega)
     obtain ⟨ρ,hR,hgh,hsz,hdf,hpt⟩:=hI
     have hDH : hD m.length (ixA j) H N listed = hf (H m.length):=by
      funext q
      unfold hD
      split
      ·rename_i h0
       exact (R.pre' (Nat.zero_le _) (Nat.le_refl _) h0).symm
      ·rename_i h0
       split
       ·rfl
       ·rename_i h1
        rcases Nat.lt_or_ge q (H m.length).length with h2 | h2
        ·exfalso
         have : ∀ d,d ≤ m.length→q < (H d).length→∃ i,i < m.length∧listed.getD (ixA j i) false = true∧(N i).isSome = true∧(H i).length = q:=by
          intro d
          induction d with
          | zero=>intro _ h3; exact absurd h3 h0
          | succ d ih=>
           intro hd' h3
           rcases Nat.lt_or_ge q (H d).length with h4 | h4
           ·exact ih (by omega) h4
           ·obtain ⟨_,_,_,_,h5⟩:=R.step d (m[d]'(by omega)) (by omega) (List.getElem?_eq_getElem _)
            cases hN : N d with
            | none=>rw [h5,hN] at h3; simp only [addO] at h3; omega
            | some x=>
             have h6:=(R.succ (by omega) hN).1
             have hdj : d < j:=by
              rcases Nat.lt_or_ge d j with h7 | h7
              ·exact h7
              ·have:=(e5 d _ (by rw [hl1]; exact h7) (List.getElem?_eq_getElem (by omega))).2.2.2.2.1
               rw [hN] at this
               cases this
             exact ⟨d,by omega,by simp only [ixA,hdj,if_true]; exact hall d hdj,by rw [hN]; rfl,by omega⟩
         exact h1 (this m.length (Nat.le_refl _) h2)
        ·exact (hf_ge h2).symm
     rw [hDH] at hR hgh hpt
     obtain ⟨sH,hsH⟩ : ∃ sH,holes m j (ixA j) listed (S m.length) = sH:=⟨_,rfl⟩
     have hRS : RelS B w0 gh ρ ⟨sH,H m.length,σ.g⟩ a w:=by
      refine ⟨?_,hgh,hR,hdf⟩
      refine dnl_of_point _ _ (by rw [← hsH]; simp [holes_len,hsz,hSl]) fun t x' u hx hu=>?_
      have hu' : a.tmps[t]? = some u:=by rw [← Array.getElem?_toList]; exact hu
      rw [← hsH] at hx
      rcases holes_get hx with rfl | ⟨h1,h2⟩
      ·simp [Dn]
      ·obtain ⟨q1,q2⟩:=hpt t u hu'
       have htl : t < (S 0).length:=by rw [← hSl]; exact (List.getElem?_eq_some_iff.1 h2).1
       rcases R.slot htl m.length (Nat.le_refl _) with ⟨q,oq,h3,h4,h5,h6⟩ | ⟨h3,h4⟩
       ·have : x' = V q:=by rw [h2] at h6; exact Option.some.inj h6
        subst this
        refine q1 q oq h3 h4 h5 ?_
        rcases Nat.lt_or_ge q j with h7 | h7
        ·simp only [ixA,h7,if_true]; exact hall q h7
        ·exact h1 q oq h7 h4 h5
       ·have : x' = (S 0).getD t .any:=by
         rw [h2] at h4
         simp [List.getD,← h4]
        subst this
        exact q2 fun q oq hq hoq hdq=>absurd hdq (h3 q oq hq hoq)
     have hopnd : ∀ y,y ∈ o.op.operands.toList→tev sH y = tev (S m.length) y:=fun y hy=>by
      rw [← hsH]
      refine tev_holes fun t ht p op hjp hpo hpd=>?_
      subst ht
      exfalso
      have h1:=List.all_eq_true.1 hod2 t (mem_tmpsOf hy)
      have h2 : op ∈ m2:=by
       rw [← hmm,List.getElem?_append_right (by omega)] at hpo
       exact List.mem_of_getElem? hpo
      have h3:=List.all_eq_true.1 h1 op h2
      simp [hpd] at h3
     have happ:=hst sH (by rw [← hsH,holes_len]) hopnd ρ a w hRS
     refine wpOp_step (by simpa using hon) fun K hK=>?_
     have hw : Region.wanted o (yielded l.toArray a.tmps) = true:=by simp [Region.wanted,hg]
     rw [hw]
     simp only [if_true]
     unfold wpList at happ
     rw [if_pos (by simp [Region.wanted,hg])] at happ
     rcases happ with happ | ⟨_,a1,w1,σ1,ρ1,⟨h1,_⟩,_⟩
     ·refine upon_mono2 (fun a' w' h1=>?_) (fun e a' w' hne h1=>?_) happ
      ·obtain ⟨σ1,ρ1,⟨_,rfl⟩,hr1⟩:=h1
       refine hK _ _ (.inr ⟨by simp [hjS],ρ1,hr1.rel,hr1.ghost,?_,hr1.defers,fun t u hu hP=>?_⟩)
       ·have:=hr1.slots.len
        simp only [List.length_set,kpL_len,Array.length_toList] at this
        rw [this,← hsH,holes_len,hs3l,hSl]
       ·have h4:=tev_dn hr1.slots (.tmp t)
        have h5 : a'.eval (.tmp t) = u:=by simp [Act.eval,Array.getD_eq_getD_getElem?,hu]
        rw [h5] at h4
        have h6 : tev ((kpL (bar i) sH).set da (.row i)) (.tmp t) = s3.getD t .any:=by
         by_cases hta : t = da
         ·subst hta
          rw [← hs3]
          simp only [tev]
          have e : (kpL (bar i) sH).length = (kpL (bar i) (S m.length)).length:=by rw [kpL_len,kpL_len,← hsH,holes_len]
          rcases Nat.lt_or_ge t (kpL (bar i) sH).length with h7 | h7
          ·simp [List.getD,h7,e ▸ h7]
          ·simp [List.getD,h7,e ▸ h7]
         ·rw [hs3at t hta]
          simp only [tev]
          rw [List.getD_eq_getElem?_getD,List.getElem?_set_ne (fun e=>hta e.symm),← List.getD_eq_getElem?_getD,kpL_getD,← hsH,holes_at]
          intro p op hjp hpo hpd
          have:=hP p op hjp hpo hpd
          rwa [getD_set_ne false (fun e=>hixn p e.symm)] at this
        rw [h6] at h4
        exact h4
      ·obtain ⟨σ1,ρ1,⟨h2,_⟩,hr1⟩:=h1
       exact absurd h2 hne
     ·cases h1
    ·obtain ⟨p,hpm,hpj⟩:=hixinv j hj hjn
     subst hpj
     refine wpOp_mono (fun a' w' h1=>.inl ⟨?_,h1⟩) (region_par_core R hp hix hinj hsize hI hpm hl rfl hd)
     rw [getD_set_ne false (fun e=>hixn p e)]
     exact hln
   ·have hjn : j ≠ n:=by
     rintro rfl
     rw [hln] at hljf
     cases hljf
    obtain ⟨p,hpm,hpj⟩:=hixinv j hj hjn
    subst hpj
    have hpn : n ≤ p:=by
     rcases Nat.lt_or_ge p n with h1 | h1
     ·have:=hbefore inv hln p h1
      simp only [ixA,h1,if_true] at hljf
      rw [this] at hljf
      cases hljf
     ·exact h1
    obtain ⟨op,hop⟩ : ∃ op,m[p]? = some op:=⟨m[p]'hpm,List.getElem?_eq_getElem _⟩
    obtain ⟨f1,f2,f3,f4,f5,f6⟩:=e5 p op (by rw [hl1]; exact hpn) hop
    obtain ⟨ρ,hR,hgh,hsz,hdf,hpt⟩:=hI
    have hol:=hix p op hop
    refine wpOp_step (by simpa using hol) fun K hK=>?_
    have hw : Region.wanted op (yielded l.toArray a.tmps) = true:=by simp [Region.wanted,f1]
    rw [hw]
    simp only [if_true]
    have hslotp : ∀ t,t ∈ readsOf l op→t ≠ da→(S m.length).getD t .any = (S p).getD t .any∧∀ q oq,n ≤ q→m[q]? = some oq→oq.dst = some t→listed.getD (ixA n q) false = true:=fun t ht hta=>by
     refine ⟨?_,fun q oq hnq hoq hdq=>?_⟩
     ·rcases Nat.lt_or_ge t (S 0).length with htl | htl
      ·rcases R.slot htl p (by omega) with ⟨q,oq,h1,h2,h3,h4⟩ | ⟨h1,h2⟩ <;> rcases R.slot htl m.length (Nat.le_refl _) with ⟨q',oq',h1',h2',h3',h4'⟩ | ⟨h1',h2'⟩
       ·have : q = q':=by
         by_cases hqq : q = q'
         ·exact hqq
         ·exact absurd h3 ((parB_spec hp (by omega) h1' h2 h2' h3').2 hqq)
        subst this
        simp [List.getD,h4,h4']
       ·exact absurd h3 (h1' q oq (by omega) h2)
       ·have:=((parB_spec hp hpm h1' hop h2' h3').1 ht).1
        exact absurd h3' (h1 q' oq' this h2')
       ·simp [List.getD,h2,h2']
      ·have hp1:=R.slen p (by omega)
       rw [List.getD_eq_getElem?_getD,List.getD_eq_getElem?_getD,List.getElem?_eq_none (by omega),List.getElem?_eq_none (by omega)]
     ·obtain ⟨_,e,he,h6,h7⟩:=(parB_spec hp hpm (List.getElem?_eq_some_iff.1 hoq).1 hop hoq hdq).1 ht
      rw [← h6]
      exact hd op (by simpa using hol) e he h7
    have hopnds : ∀ y ∈ op.op.operands.toList,Dn (cxOf B ρ (hf h3) w) (tev (S p) y) (a.eval y):=by
     intro y hy
     cases y with
     | tmp t=>
      have htr : t ∈ readsOf l op:=List.mem_append_left _ (mem_tmpsOf hy)
      have hta : t ≠ da:=fun e=>(hdam p op hop).1 (e ▸ htr)
      obtain ⟨g1,g2⟩:=hslotp t htr hta
      have h5:=f3 _ hy
      simp only [tev] at h5 ⊢
      rcases Nat.lt_or_ge t a.tmps.size with htl | htl
      ·have hu : a.tmps[t]? = some (a.tmps.getD t undef):=by simp [htl]
       have h6:=hpt t _ hu g2
       rw [hs3at t hta,g1,h5] at h6
       exact h6
      ·have hp1:=R.slen p (by omega)
       rw [List.getD_eq_getElem?_getD,List.getElem?_eq_none (by omega)]
       simp [Dn]
     | const v=>exact ofV_dn _ v
     | global g=>simp [tev,Act.eval,Dn]
     | func f=>
      simp only [tev,Act.eval,Dn]
      exact ⟨[],rfl,DnL.nil⟩
    refine f2 ρ (hf h3) w a (fun q hq hne=>.inr (hH3 q hne)) (fun h=>by cases h) hR hopnds K _ fun u w' ρ' R' KK hbw hdu=>?_
    simp only [addf] at R' KK hdu
    refine hK _ _ (.inr ⟨?_,ρ',R',DnL.keep KK _ _ hgh,?_,by rw [put_defers]; exact hdf,fun t v hv hP=>?_⟩)
    ·rw [getD_set_ne false (fun e=>hixn p e)]
     exact hln
    ·rw [← hsz]
     cases hd' : op.dst with
     | none=>rfl
     | some d=>simp [Act.put]
    ·by_cases hdt : op.dst = some t
     ·have hvu : v = u:=by
       rw [hdt] at hv
       simp only [Act.put,Array.getElem?_setIfInBounds_self] at hv
       split at hv
       ·injection hv with hv; exact hv.symm
       ·cases hv
      subst hvu
      have hta : t ≠ da:=fun e=>(hdam p op hop).2 (e ▸ hdt)
      have htl : t < (S 0).length:=by
       rcases Nat.lt_or_ge t a.tmps.size with h1 | h1
       ·omega
       ·rw [hdt] at hv
        simp only [Act.put] at hv
        have:=(Array.getElem?_eq_some_iff.1 hv).1
        simp at this
        omega
      rw [hs3at t hta]
      rcases R.slot htl m.length (Nat.le_refl _) with ⟨q,oq,h1,h2,h3',h4⟩ | ⟨h1,h2⟩
      ·have : p = q:=by
        by_cases hqq : p = q
        ·exact hqq
        ·exact absurd hdt ((parB_spec hp hpm h1 hop h2 h3').2 hqq)
       subst this
       have : (S m.length).getD t .any = V p:=by simp [List.getD,h4]
       rw [this,f4]
       exact hdu
      ·exact absurd hdt (h1 p op hpm hop)
     ·have hv' : a.tmps[t]? = some v:=by
       cases hd' : op.dst with
       | none=>rw [hd'] at hv; exact hv
       | some d=>
        rw [hd'] at hv
        simp only [Act.put] at hv
        rw [Array.getElem?_setIfInBounds_ne (fun e=>hdt (by rw [hd',e]))] at hv
        exact hv
      refine Dn.keep KK _ _ (hpt t v hv' fun q oq hnq hoq hdq=>?_)
      have h1:=hP q oq hnq hoq hdq
      have hqp : q ≠ p:=by
       rintro rfl
       rw [hop] at hoq
       injection hoq with hoq
       subst hoq
       exact hdt hdq
      rwa [getD_set_ne false (fun e=>hqp (hinj _ _ hpm (List.getElem?_eq_some_iff.1 hoq).1 e).symm)] at h1)
  (fun listed a' w' inv hall hI=>by
   have hlist:=headOf_eq hn' inv hall
   subst hlist
   have hl : ∀ i,i < n + 1 + k→(headOf (n + 1 + k) l.toArray.size).getD i false = true:=fun i hi=>by
    have h1:=hall i hi
    have h2 : i < (headOf (n + 1 + k) l.toArray.size).size:=by rw [inv.size]; omega
    simp only [Array.getD,h2,dite_true] at h1 ⊢
    exact h1
   rcases hI with ⟨h1,_⟩ | ⟨_,hI⟩
   ·rw [hl n (by omega)] at h1; cases h1
   ·obtain ⟨ρ',hR,hgh,hsz,hdf,hpt⟩:=hI
    have hRS : RelS B w0 gh ρ' ⟨s3,h3,kpL (bar i) σ.g⟩ a' w':=by
     refine ⟨dnl_of_point _ _ (by simp [hsz]) fun t x' u hx hu=>?_,hgh,hR,hdf⟩
     have hu' : a'.tmps[t]? = some u:=by rw [← Array.getElem?_toList]; exact hu
     have:=hpt t u hu' fun p op hnp hop hdp=>hl _ (hixlt p (List.getElem?_eq_some_iff.1 hop).1)
     rw [List.getD_eq_getElem?_getD,hx] at this
     exact this
    have hT':=hT ρ' a' w' hRS
    rcases htail with hnl | ⟨⟨⟨hlt,hs⟩,hc⟩,hq⟩
    ·have hdr : l.drop (n + 1 + k) = []:=by rw [hnl]; simp
     rw [hdr] at hT'
     have hrd : Region.ready .any l.toArray (headOf (n + 1 + k) l.toArray.size) = []:=by
      rw [List.eq_nil_iff_forall_not_mem]
      intro t hr'
      obtain ⟨hl',o,ho,_⟩:=mem_ready.1 hr'
      have:=(Array.getElem?_eq_some_iff.1 ho).1
      have hlt : t < l.length:=by simpa using this
      have h5:=hl t (by omega)
      have h6 : t < (headOf (n + 1 + k) l.toArray.size).size:=by rw [inv.size]; exact this
      simp only [Array.getD,h6,dite_true] at hl' h5
      rw [hl'] at h5
      cases h5
     rw [show l.toArray.size - (n + 1 + k) = 0 by simp; omega]
     exact ⟨hrd,hT'⟩
    ·have:=wpAny_of_seq (P:=P) (ops:=l.toArray) (md:=.any) (Q':=liftQ B w0 gh Q) (l.drop (n + 1 + k)) (n + 1 + k) (headOf (n + 1 + k) l.length) a' w' (fun j=>by simp [List.getElem?_drop]) (by rw [List.length_drop]; exact hq) hT'
     simpa using this)
  (leftOf (n + 1 + k) (Array.replicate l.toArray.size false)) _ a w.drew inv0 rfl
  (.inl ⟨getD_replicate_false _ _,by
   have hD0 : hD m.length (ixA n) H N (Array.replicate l.toArray.size false) = hf σ.h:=by
    funext q
    unfold hD
    rw [e2]
    split
    ·rfl
    ·rename_i h0
     rw [if_neg,hf_ge (by omega)]
     rintro ⟨i,_,h1,_⟩
     rw [getD_replicate_false] at h1
     cases h1
   refine ⟨ρ,?_⟩
   unfold PIb
   rw [hD0,e1]
   have hb0 : Below w.heap.size w w.drew:=(Below.refl _ _).drew
   have KK : Keeps (cxOf B ρ (hf σ.h) w) (cxOf B ρ (hf σ.h) w.drew):=.grow hb0
   refine ⟨hr.rel.grow hb0,DnL.keep KK _ _ hr.ghost,by have:=hr.slots.len; simpa using this,hr.defers,fun t u hu=>⟨fun i o hi ho hd hl=>(by rw [getD_replicate_false] at hl; cases hl),fun _=>?_⟩⟩
   have hsl:=tev_dn hr.slots (.tmp t)
   have h2 : a.eval (.tmp t) = u:=by simp [Act.eval,Array.getD_eq_getD_getElem?,hu]
   rw [h2] at hsl
   exact Dn.keep KK _ _ hsl⟩)
 have hleft : leftOf (n + 1 + k) (Array.replicate l.toArray.size false) = n + 1 + k:=by
  unfold leftOf
  rw [List.filter_eq_self.2]
  ·simp
  ·intro i hi
   rw [List.mem_range] at hi
   have : i < l.length:=by omega
   simp [this]
 rw [hleft,show n + 1 + k + (l.toArray.size - (n + 1 + k)) = l.toArray.size by omega] at key
 exact key
end
end Go.Proofs.YtpgfhkbnngjegaaGreatDoor
