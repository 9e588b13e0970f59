/- How several lots of tables that come in are read as trees. No condition. -/
import Derived.Test.YtpgfhkbnngjegaaGreatDoorWE
import Derived.Test.YtpgfhkbnngjegaaGreatDoorU32
import Derived.Test.YtpgfhkbnngjegaaGreatDoorTV
namespace Go.Proofs.YtpgfhkbnngjegaaGreatDoor
open Go.RowKit
set_option linter.unusedVariables false
set_option linter.unusedSimpArgs false
theorem qwl0 {p : Prop} (h : p:=by
 refine ⟨?_,?_,?_⟩
 ·refine leEnv_app (by kernel_rfl) (by kernel_rfl) ?_
  repeat ((conv=>whnf); first | exact True.intro | refine ⟨.rfl,?_⟩ | refine ⟨.any,?_⟩ | refine ⟨.nil,?_⟩ | refine ⟨.int (by first | rfl | omega | (simp only [wrs]; omega)),?_⟩)
 ·repeat (first | exact LeVs.nil | ((conv=>whnf); first | exact True.intro | exact .none | exact .ext | exact .row rfl | exact .rowF rfl rfl rfl | refine .cells ?_ | refine ⟨_,_,rfl,.rfl,?_⟩ | refine ⟨_,_,rfl,.any,?_⟩ | refine ⟨_,_,rfl,.nil,?_⟩ | refine ⟨_,_,rfl,.int (by first | rfl | omega | (simp only [wrs]; omega)),?_⟩ | refine ⟨?_,?_⟩))
  done
 ·exact LeFr.same (by kernel_rfl)) : p:=h
theorem qwl1 {p : Prop} (h : p:=by
 conv=>whnf
 refine ⟨by assumption,?_⟩
 conv=>whnf
 refine IdxG.map (l:=ks) k rfl (by first | omega | (simp only [List.length_map] at *; omega)) ?_; intro v1 hv1 hnv1
 conv=>whnf
 refine ⟨rfl,?_⟩
 conv=>whnf
 refine ⟨by assumption,?_⟩
 conv=>whnf
 refine .ct ?_
 conv=>whnf
 refine CallG.mk (get_T _ _ _ _ s (cutS n0 30) v1 hs hn [] false (by rw [getO_none hO]; rfl) (by rw [getO_none hO]; rfl)) rfl ?_
 conv=>whnf
 refine .ct ?_
 conv=>whnf
 refine CallG.mk (sameR_nil) rfl ?_
 conv=>whnf
 refine XT.clear2 [14] ?_
 conv=>whnf
 refine XT.marks [(24,.p (.v (.bool true)) (nlv _))] ?_
 conv=>whnf
 refine XT.loop tabX_ok (Y:=Nat × List Val) [13,14,16,19,67,68,69,70,72,73,74,103,108,109,110,111,115,117,118,119,120,121,122,123,124] (fun (q,y)=>[(117,.p (.v (.int .i64 ((q : Int)))) (nlv _)),(14,.p (.sl true (y.map vlC)) (nl_vl _).sl)]) (fun (q,y)=>[]) (fun (q,y)=>q ≤ y.length∧y.length = (([] : List Val)).length∧(([] : List Val)).length ≤ 100000) (fun (q,y)=>y.length - q) (0,([] : List Val)) ⟨Nat.zero_le _,rfl,by simp⟩ ?_ ?_
 ·exact qwl0
 ·rintro ⟨q,y⟩ ⟨hq,hy,hyl⟩
  conv=>whnf
  refine ⟨⟨⟨_,_,rfl⟩,rfl,⟨_,_,rfl⟩,rfl,⟨_,_,rfl⟩,rfl,⟨_,_,rfl⟩,rfl,True.intro⟩,?_⟩
  conv=>whnf
  refine XT.of tabX_ok ?_
  conv=>whnf
  refine ⟨(k + 1),by omega,by omega,?_⟩
  refine ⟨?_,?_,?_⟩
  ·repeat ((conv=>whnf); first | exact True.intro | refine ⟨.rfl,?_⟩ | refine ⟨.any,?_⟩ | refine ⟨.nil,?_⟩ | refine ⟨.int (by first | rfl | omega | (simp only [wrs]; omega)),?_⟩)
  ·repeat (first | exact LeVs.nil | ((conv=>whnf); first | exact True.intro | exact .none | exact .ext | exact .row rfl | exact .rowF rfl rfl rfl | refine .cells ?_ | refine ⟨_,_,rfl,.rfl,?_⟩ | refine ⟨_,_,rfl,.any,?_⟩ | refine ⟨_,_,rfl,.nil,?_⟩ | refine ⟨_,_,rfl,.int (by first | rfl | omega | (simp only [wrs]; omega)),?_⟩ | refine ⟨?_,?_⟩))
   done
  ·exact LeFr.same (by kernel_rfl)) : p:=h
theorem qwl2 {p : Prop} (h : p:=by
 refine ⟨.pin rfl rfl (by simp [Pu,PuL,tbC,rwC,vlC,dfC,pu_vl,pu_dc,pu_rw,pu_tb]) (by simp only [untag,untagL,tbC,rwC,vlC,dfC,untag_vl,untag_dc,untag_rw,untag_tb]),?_⟩
 refine ⟨.pin rfl rfl (by simp [Pu,PuL,tbC,rwC,vlC,dfC,pu_vl,pu_dc,pu_rw,pu_tb]) (by simp only [untag,untagL,tbC,rwC,vlC,dfC,untag_vl,untag_dc,untag_rw,untag_tb]),?_⟩
 refine ⟨.pin rfl rfl (by simp [Pu,PuL,tbC,rwC,vlC,dfC,pu_vl,pu_dc,pu_rw,pu_tb]) (by simp only [untag,untagL,tbC,rwC,vlC,dfC,untag_vl,untag_dc,untag_rw,untag_tb]),?_⟩
 refine ⟨.pin rfl rfl (by simp [Pu,PuL,tbC,rwC,vlC,dfC,pu_vl,pu_dc,pu_rw,pu_tb]) (by simp only [untag,untagL,tbC,rwC,vlC,dfC,untag_vl,untag_dc,untag_rw,untag_tb]),?_⟩
 exact True.intro) : p:=h
theorem qwl3 {p : Prop} (h : p:=by
 repeat (first | exact LeVs.nil | ((conv=>whnf); first | exact True.intro | exact .none | exact .ext | exact .row rfl | exact .rowF rfl rfl rfl | refine .cells ?_ | refine ⟨_,_,rfl,.rfl,?_⟩ | refine ⟨_,_,rfl,.any,?_⟩ | refine ⟨_,_,rfl,.nil,?_⟩ | refine ⟨_,_,rfl,.int (by first | rfl | omega | (simp only [wrs]; omega)),?_⟩ | refine ⟨_,_,rfl,.tv (by first | rfl | (rw [wntR_s hr1,vAt_of hv2]; split <;> first | rfl | (simp_all; done))),?_⟩ | refine ⟨?_,?_⟩))
 done) : p:=h
theorem qwl4 {p : Prop} (h : p:=by
 conv=>whnf
 refine ⟨⟨⟨_,_,rfl⟩,rfl,⟨_,_,rfl⟩,rfl,⟨_,_,rfl⟩,rfl,⟨_,_,rfl⟩,rfl,True.intro⟩,?_⟩
 conv=>whnf
 refine XT.freeze 1 ?_
 conv=>whnf
 refine XT.pass tabX_ok ?_
 conv=>whnf
 refine .wr (WCall.spoil (tspoil_M (s:=[tblZ]) (by simp) (by intro x hx; simp only [List.mem_singleton] at hx; subst hx; simp [tblZ])) rfl ?_)
 conv=>whnf
 refine FinG.mk none ?_ zqR
 simp only [outs,zqL,fr_by1,fr_rw,fr_tb,fr_dc,fr_vl,fr_cl,tblZ,List.map_nil,wk_len,fr_vl,fr_rw,fr_dc,fr_tb,fr_cl,fr_rw,fr_tb,fr_dc,fr_vl,fr_cl,fr_rw,fr_tb,fr_dc,fr_vl]) : p:=h
theorem qwl5 {p : Prop} (h : p:=by
 repeat ((conv=>whnf); first | exact True.intro | refine ⟨.rfl,?_⟩ | refine ⟨.any,?_⟩ | refine ⟨.nil,?_⟩ | refine ⟨.int (by first | rfl | omega | (simp only [wrs]; omega)),?_⟩ | refine ⟨.tv (by first | rfl | (rw [wntR_s hr1,vAt_of hv2]; split <;> first | rfl | (simp_all; done))),?_⟩)) : p:=h
theorem qwl6 {p : Prop} (h : p:=by
 try simp only [bls] at hc5
 conv=>whnf
 refine ⟨(j + 1),by omega,by omega,?_⟩
 refine ⟨?_,?_,?_⟩
 ·exact qwl5
 ·exact qwl3
 ·exact LeFr.same (by kernel_rfl)) : p:=h
set_option maxRecDepth 20000
theorem sameR_nil : XMeets Tryz.prog 39 [.sl true [[.sl true (([] : List Val).map vlC)]],.sl true [[.nil_]]] (.p (.v (.bool (smL (smL vlE) [[]] [[]]))) (nlv _)):=by
  have m:=sameR12 true true true true [[]] [[]] (by simp) (by intro r hr; simp only [List.mem_singleton] at hr; subst hr; simp)
  refine ⟨m.1,fun C vals hg hd=>m.2 C vals hg ?_⟩
  simp only [DnL] at hd
  obtain ⟨u1,us,rfl,h1,u2,us2,rfl,h2,rfl⟩:=hd
  refine ⟨u1,_,rfl,h1,u2,_,rfl,?_,rfl⟩
  simp only [Dn] at h2
  obtain ⟨A,c,css,sz,e,l1,l2,l3,l4,l5,l6⟩:=h2
  simp only [DnLL,DnL,Dn] at l5
  obtain ⟨r,_,rfl,⟨v,_,rfl,rfl,rfl⟩,rfl⟩:=l5
  show Dn C (.sl true [[.sl true []]]) u2
  simp only [Dn]
  refine ⟨A,c,_,sz,e,l1,l2,fun h=>absurd (l3 h) (by simp),l4,?_,fun ad ha=>⟨fun _=>(l6 ad ha).1 (by simp),(l6 ad ha).2⟩⟩
  simp only [DnLL,DnL]
  refine ⟨_,_,rfl,⟨_,_,rfl,?_,rfl⟩,rfl⟩
  simp only [Dn]
  exact ⟨none,0,[],0,rfl,Nat.le_refl _,by simp [maxLen],by simp,by simp,by simp [DnLL],fun ad ha=>by cases ha⟩
set_option maxHeartbeats 4000000 in
set_option maxRecDepth 20000 in
theorem tells_T (b b1 b2 b3 d : Bool) (s : List Tbl) (n0 : ByteArray) (ks : List Val) (hs : ∀ t ∈ s,t.In) (hn : s.length ≤ 100000) (hkl : ks.length ≤ 100000) : XMeets Tryz.prog 31 [stT b b1 b2 b3 s,.v (.bool (stoB s)),.v (.string n0),.sl d (ks.map vlC)] (.p (.v (.bool (true))) (nlv _)):=by
 refine XMeets.of_XM [(9,.p (.v (.bool true)) (nlv _)),(28,.p (.v (.bool true)) (nlv _))] tabX_ok (avs:=[.ag [.p (.sl false (s.map (tbC false false false))) (nl_tb _ _ _ _).sl],.p (.v (.bool (stoB s))) (nlv _),.p (.v (.string n0)) (nlv _),.p (.sl false (ks.map vlC)) (nl_vl _).sl]) [(0,.ag [.p (.sl false (s.map (tbC false false false))) (nl_tb _ _ _ _).sl]),(1,.p (.v (.bool (stoB s))) (nlv _)),(2,.p (.v (.string n0)) (nlv _)),(3,.p (.sl false (ks.map vlC)) (nl_vl _).sl)] (by kernel_rfl) Tryz.func31 rfl (by simp [PuL,Pu,tbT,stT,tbC,rwC,vlC,dfC,pu_vl,pu_dc,pu_rw,pu_tb]) (by simp only [untagL,untag,tbT,stT,tbC,rwC,vlC,dfC,untag_vl,untag_dc,untag_rw,untag_tb]; rfl) rfl rfl ?_
 intro B w0
 rcases tell_cases s (cutS n0 30) hs with ⟨hR,hO⟩ | ⟨hR,hO,hA⟩ | ⟨t,hR,hO,hI,hA,hQ⟩
 ·conv=>whnf
  refine ⟨_,(Int.toNat_of_nonneg (by omega)).symm,?_⟩
  conv=>whnf
  refine ⟨by omega,?_⟩
  conv=>whnf
  refine ⟨by omega,?_⟩
  conv=>whnf
  refine .ct ?_
  conv=>whnf
  refine CallG.mk (findT_T _ _ _ _ s (cutS n0 30) hs hn tblZ none hO.symm (by simp [fndT,hO])) rfl ?_
  conv=>whnf
  refine bF zqS ?_
  conv=>whnf
  refine RegG.par 28 (by kernel_rfl) ?_
  conv=>whnf
  refine CallG.mk (sameT12 true true true true true true tblZ tblZ (by simp [tblZ]) (by simp [tblZ]) (by simp [tblZ])) rfl ?_
  conv=>whnf
  refine XT.loop tabX_ok (Y:=Nat) [0,8,13,14,15,16,18,19,25,26,28,29,43,44,65,66,67,68,69,70,71,72,73,74,75,76,77,78,79,80,81,82,83,84,85,86,87,88,89,90,91,92,93,94,95,96,97,98,99,100,101,102,103,104,105,106,107,108,109,110,111,112,113,114,115,116,117,118,119,120,121,122,123,124,125] (fun k=>[(65,.p (.v (.int .i64 (k))) (nlv _))]) (fun k=>[]) (fun k=>k ≤ ks.length) (fun k=>ks.length - k) 0 (Nat.zero_le _) ?_ ?_
  ·exact qwl0
  ·rintro k hk
   conv=>whnf
   refine XT.markM [(0,[(24,.p (.v (.bool true)) (nlv _))])] rfl tabX_ok 2 [3,4,9,63] ?_
   intro M w1 us
   refine ⟨[(3,.pin (us 3) (.sl false (ks.map vlC)) ((nl_vl _).sl)),(4,.pin (us 4) (.eptr [.sl false (s.map (tbC false false false))]) ((NlL.cons (nl_tb _ _ _ _).sl .nil).eptr)),(9,.pin (us 9) (.eptr [.v (.string tblZ.n),.sl false (tblZ.c.map dfC),.sl false (tblZ.r.map (rwC false))]) ((NlL.cons (nlv _) (.cons (nl_dc _).sl (.cons (nl_rw _ _).sl .nil))).eptr)),(63,.pin (us 63) (.sl false (ks.map vlC)) ((nl_vl _).sl))],?_,?_⟩
   ·exact qwl2
   ·intro hpins
    obtain ⟨hp3,hp4,hp9,hp63,-⟩ : PinOk M w1 (us 3) (.sl false (ks.map vlC))∧PinOk M w1 (us 4) (.eptr [.sl false (s.map (tbC false false false))])∧PinOk M w1 (us 9) (.eptr [.v (.string tblZ.n),.sl false (tblZ.c.map dfC),.sl false (tblZ.r.map (rwC false))])∧PinOk M w1 (us 63) (.sl false (ks.map vlC))∧True:=hpins
    conv=>whnf
    refine bS (fun hc1=>?_) (fun hc1=>?_)
    ·try simp only [bls] at hc1
     exact qwl1
    ·try simp only [bls] at hc1
     exact qwl4
 ·conv=>whnf
  refine ⟨_,(Int.toNat_of_nonneg (by omega)).symm,?_⟩
  conv=>whnf
  refine ⟨by omega,?_⟩
  conv=>whnf
  refine ⟨by omega,?_⟩
  conv=>whnf
  refine .ct ?_
  conv=>whnf
  refine CallG.mk (findT_T _ _ _ _ s (cutS n0 30) hs hn tblZ none hO.symm (by simp [fndT,hO])) rfl ?_
  conv=>whnf
  refine bT zqS ?_
  conv=>whnf
  refine .ct ?_
  conv=>whnf
  refine CallG.mk ((at12 _ _ _ _ s (cutS n0 30) hn).eq (by rw [hA])) rfl ?_
  conv=>whnf
  refine RegG.par 28 (by kernel_rfl) ?_
  conv=>whnf
  refine CallG.mk (sameT12 true true true true true true tblZ tblZ (by simp [tblZ]) (by simp [tblZ]) (by simp [tblZ])) rfl ?_
  conv=>whnf
  refine XT.loop tabX_ok (Y:=Nat) [0,8,13,14,15,16,18,19,25,26,28,29,32,43,44,65,66,67,68,69,70,71,72,73,74,75,76,77,78,79,80,81,82,83,84,85,86,87,88,89,90,91,92,93,94,95,96,97,98,99,100,101,102,103,104,105,106,107,108,109,110,111,112,113,114,115,116,117,118,119,120,121,122,123,124,125] (fun k=>[(65,.p (.v (.int .i64 (k))) (nlv _))]) (fun k=>[]) (fun k=>k ≤ ks.length) (fun k=>ks.length - k) 0 (Nat.zero_le _) ?_ ?_
  ·exact qwl0
  ·rintro k hk
   conv=>whnf
   refine XT.markM [(0,[(24,.p (.v (.bool true)) (nlv _))])] rfl tabX_ok 2 [3,4,9,63] ?_
   intro M w1 us
   refine ⟨[(3,.pin (us 3) (.sl false (ks.map vlC)) ((nl_vl _).sl)),(4,.pin (us 4) (.eptr [.sl false (s.map (tbC false false false))]) ((NlL.cons (nl_tb _ _ _ _).sl .nil).eptr)),(9,.pin (us 9) (.eptr [.v (.string tblZ.n),.sl false (tblZ.c.map dfC),.sl false (tblZ.r.map (rwC false))]) ((NlL.cons (nlv _) (.cons (nl_dc _).sl (.cons (nl_rw _ _).sl .nil))).eptr)),(63,.pin (us 63) (.sl false (ks.map vlC)) ((nl_vl _).sl))],?_,?_⟩
   ·exact qwl2
   ·intro hpins
    obtain ⟨hp3,hp4,hp9,hp63,-⟩ : PinOk M w1 (us 3) (.sl false (ks.map vlC))∧PinOk M w1 (us 4) (.eptr [.sl false (s.map (tbC false false false))])∧PinOk M w1 (us 9) (.eptr [.v (.string tblZ.n),.sl false (tblZ.c.map dfC),.sl false (tblZ.r.map (rwC false))])∧PinOk M w1 (us 63) (.sl false (ks.map vlC))∧True:=hpins
    conv=>whnf
    refine bS (fun hc2=>?_) (fun hc2=>?_)
    ·try simp only [bls] at hc2
     exact qwl1
    ·try simp only [bls] at hc2
     exact qwl4
 ·have hin:=hQ.I
  have hlt2:=(List.getElem?_eq_some_iff.1 hI).1
  have hIe : ((fndI s (cutS n0 30) : Nat) : Int) = ((fndI s (cutS n0 30) : Nat) : Int):=rfl
  have hG:=tell_get hO hQ
  have hr40:=hQ.F.r
  conv=>whnf
  refine ⟨_,(Int.toNat_of_nonneg (by omega)).symm,?_⟩
  conv=>whnf
  refine ⟨by omega,?_⟩
  conv=>whnf
  refine ⟨by omega,?_⟩
  conv=>whnf
  refine .ct ?_
  conv=>whnf
  refine CallG.mk (findT_T _ _ _ _ s (cutS n0 30) hs hn t (some t) hO.symm (by simp [fndT,hO])) rfl ?_
  conv=>whnf
  refine bT zqS ?_
  conv=>whnf
  refine .ct ?_
  conv=>whnf
  refine CallG.mk ((at12 _ _ _ _ s (cutS n0 30) hn).eq (by rw [hA])) rfl ?_
  conv=>whnf
  refine RegG.par 28 (by kernel_rfl) ?_
  conv=>whnf
  refine IdxG.map (l:=s) (fndI s (cutS n0 30)) hIe hlt2 ?_; intro t2 ht2 hnt2; obtain rfl : t = t2:=Option.some.inj (hI.symm.trans ht2); clear ht2
  conv=>whnf
  refine ⟨rfl,?_⟩
  conv=>whnf
  refine CallG.mk (sameT12 true true true false false false t t hin.cn hin.rn (fun r hr=>(hin.r r hr).1)) rfl ?_
  conv=>whnf
  refine bF (by rw [tbE_self]; rfl) ?_
  conv=>whnf
  refine XT.loop tabX_ok (Y:=Nat) [0,8,13,14,15,16,18,19,25,26,28,29,32,53,54,55,57,58,65,66,67,68,69,70,71,72,73,74,75,76,77,78,79,80,81,82,83,84,85,86,87,88,89,90,91,92,93,94,95,96,97,98,99,100,101,102,103,104,105,106,107,108,109,110,111,112,113,114,115,116,117,118,119,120,121,122,123,124,125] (fun k=>[(65,.p (.v (.int .i64 (k))) (nlv _))]) (fun k=>[]) (fun k=>k ≤ ks.length) (fun k=>ks.length - k) 0 (Nat.zero_le _) ?_ ?_
  ·exact qwl0
  ·rintro k hk
   conv=>whnf
   refine XT.markM [(0,[(24,.p (.v (.bool true)) (nlv _))])] rfl tabX_ok 2 [3,4,9,63] ?_
   intro M w1 us
   refine ⟨[(3,.pin (us 3) (.sl false (ks.map vlC)) ((nl_vl _).sl)),(4,.pin (us 4) (.eptr [.sl false (s.map (tbC false false false))]) ((NlL.cons (nl_tb _ _ _ _).sl .nil).eptr)),(9,.pin (us 9) (.eptr [.v (.string t.n),.sl false (t.c.map dfC),.sl false (t.r.map (rwC false))]) ((NlL.cons (nlv _) (.cons (nl_dc _).sl (.cons (nl_rw _ _).sl .nil))).eptr)),(63,.pin (us 63) (.sl false (ks.map vlC)) ((nl_vl _).sl))],?_,?_⟩
   ·exact qwl2
   ·intro hpins
    obtain ⟨hp3,hp4,hp9,hp63,-⟩ : PinOk M w1 (us 3) (.sl false (ks.map vlC))∧PinOk M w1 (us 4) (.eptr [.sl false (s.map (tbC false false false))])∧PinOk M w1 (us 9) (.eptr [.v (.string t.n),.sl false (t.c.map dfC),.sl false (t.r.map (rwC false))])∧PinOk M w1 (us 63) (.sl false (ks.map vlC))∧True:=hpins
    conv=>whnf
    refine bS (fun hc3=>?_) (fun hc3=>?_)
    ·try simp only [bls] at hc3
     conv=>whnf
     refine ⟨by assumption,?_⟩
     conv=>whnf
     refine IdxG.map (l:=ks) k rfl (by first | omega | (simp only [List.length_map] at *; omega)) ?_; intro v1 hv1 hnv1
     conv=>whnf
     refine ⟨rfl,?_⟩
     conv=>whnf
     refine ⟨by assumption,?_⟩
     conv=>whnf
     refine .ct ?_
     conv=>whnf
     refine CallG.mk (get_T _ _ _ _ s (cutS n0 30) v1 hs hn (wntR t v1 t.r.length) (decide (0 < ((wntR t v1 t.r.length).length : Int))) (hG v1).1 (hG v1).2.1) rfl ?_
     conv=>whnf
     refine ⟨by assumption,?_⟩
     conv=>whnf
     refine IdxG.map (l:=s) (fndI s (cutS n0 30)) hIe hlt2 ?_; intro t2 ht2 hnt2; obtain rfl : t = t2:=Option.some.inj (hI.symm.trans ht2); clear ht2
     conv=>whnf
     refine ⟨rfl,?_⟩
     conv=>whnf
     refine XT.loop tabX_ok (Y:=Nat) [16,18,85,86,87,88,89,90,91,92,93,94,95,96,97,98,99,100,101] (fun j=>[(85,.p (.v (.int .i64 (j))) (nlv _)),(16,.p (.sl false ((wntR t v1 j).map vlC)) (nl_vl _).sl)]) (fun j=>[]) (fun j=>j ≤ t.r.length) (fun j=>t.r.length - j) 0 (Nat.zero_le _) ?_ ?_
     ·refine ⟨?_,?_,?_⟩
      ·refine leEnv_app (by kernel_rfl) (by kernel_rfl) ?_
       exact qwl5
      ·exact qwl3
      ·exact LeFr.same (by kernel_rfl)
     ·rintro j hj
      conv=>whnf
      refine bS (fun hc4=>?_) (fun hc4=>?_)
      ·try simp only [bls] at hc4
       conv=>whnf
       refine IdxG.map (l:=t.r) j rfl (by first | omega | (simp only [List.length_map] at *; omega)) ?_; intro r1 hr1 hnr1; have hm1:=List.mem_of_getElem? hr1
       conv=>whnf
       refine ⟨rfl,?_⟩
       conv=>whnf
       refine RegG.unpin 4 rfl hp4 rfl rfl ?_
       refine RegG.par 11 (by kernel_rfl) ?_
       conv=>whnf
       refine IdxG.map (l:=s) (fndI s (cutS n0 30)) hIe hlt2 ?_; intro t2 ht2 hnt2; obtain rfl : t = t2:=Option.some.inj (hI.symm.trans ht2); clear ht2
       conv=>whnf
       refine ⟨rfl,?_⟩
       conv=>whnf
       refine CallG.mk (key12_T _ _ _ t hin.cn) rfl ?_
       conv=>whnf
       refine IdxG.map (l:=r1) (keyI t.c).toNat (by have:=hQ.F.k0; omega) (by have:=key_at hQ.F hm1; simpa using this) ?_; intro v2 hv2 hnv2
       conv=>whnf
       refine ⟨rfl,?_⟩
       conv=>whnf
       refine BinG.mk rfl rfl (eqVal_run _ _ _ _ _ _ _ _) ?_
       conv=>whnf
       refine bS (fun hc5=>?_) (fun hc5=>?_)
       ·exact qwl6
       ·exact qwl6
      ·try simp only [bls] at hc4
       obtain rfl : j = t.r.length:=by first | omega | (simp only [List.length_map] at *; omega)
       conv=>whnf
       refine bF zqS ?_
       conv=>whnf
       refine bF zqS ?_
       conv=>whnf
       refine bF zqS ?_
       conv=>whnf
       refine bF zqS ?_
       conv=>whnf
       refine bF zqS ?_
       conv=>whnf
       refine .ct ?_
       conv=>whnf
       refine CallG.mk (sameR12 true true true false [wntR t v1 t.r.length] [wntR t v1 t.r.length] (by simp) (by intro r hr; simp only [List.mem_singleton] at hr; subst hr; exact (hG v1).2.2)) rfl ?_
       conv=>whnf
       refine bF zqS ?_
       conv=>whnf
       refine bF zqS ?_
       conv=>whnf
       refine bF (by rw [smR_self]; rfl) ?_
       conv=>whnf
       refine XT.clear2 [14] ?_
       conv=>whnf
       refine XT.marks [(24,.p (.v (.bool true)) (nlv _))] ?_
       conv=>whnf
       refine XT.loop tabX_ok (Y:=Nat × List Val) [13,14,16,19,67,68,69,70,72,73,74,78,79,81,82,83,103,108,109,110,111,115,117,118,119,120,121,122,123,124] (fun (q,y)=>[(117,.p (.v (.int .i64 ((q : Int)))) (nlv _)),(14,.p (.sl true (y.map vlC)) (nl_vl _).sl)]) (fun (q,y)=>[]) (fun (q,y)=>q ≤ y.length∧y.length = (wntR t v1 t.r.length).length∧(wntR t v1 t.r.length).length ≤ 100000) (fun (q,y)=>y.length - q) (0,wntR t v1 t.r.length) ⟨Nat.zero_le _,rfl,(hG v1).2.2⟩ ?_ ?_
       ·exact qwl0
       ·rintro ⟨q,y⟩ ⟨hq,hy,hyl⟩
        conv=>whnf
        refine bS (fun hc6=>?_) (fun hc6=>?_)
        ·try simp only [bls] at hc6
         conv=>whnf
         refine XT.overF tabX_ok 2 14 (fun y : List Val=>.p (.sl true (y.map vlC)) (nl_vl _).sl) (fun z=>z.length = y.length) rfl ⟨rfl,rfl,rfl⟩ ⟨rfl,rfl,rfl⟩ ⟨rfl,rfl,rfl⟩ (tT rfl) rfl (tT rfl) (tT rfl) rfl rfl (tT rfl) rfl (tT rfl) rfl rfl rfl rfl ?_ rfl rfl
         conv=>whnf
         obtain ⟨z1,hz1⟩ : ∃ z,y[q]? = some z:=⟨_,List.getElem?_eq_getElem (by omega)⟩; refine ⟨y.map vlC,(nl_vl _).sl,vlC z1,q,nlv _,.i64,z1.n,99,rfl,rfl,(by rw [List.getElem?_map,hz1]; rfl),rfl,rfl,fun v v'=>rfl,fun C C2 u hs hB hS hd=>bl_vals hs hB hS hd,?_⟩; intro y2 hy2
         conv=>whnf
         refine ⟨(q + 1,y2),⟨by omega,by omega,hyl⟩,(by show y2.length - (q + 1) < y.length - q; omega),?_⟩
         exact qwl0
        ·try simp only [bls] at hc6
         conv=>whnf
         refine ⟨⟨⟨_,_,rfl⟩,rfl,⟨_,_,rfl⟩,rfl,⟨_,_,rfl⟩,rfl,⟨_,_,rfl⟩,rfl,True.intro⟩,?_⟩
         conv=>whnf
         refine XT.of tabX_ok ?_
         conv=>whnf
         refine ⟨(k + 1),by omega,by omega,?_⟩
         refine ⟨?_,?_,?_⟩
         ·repeat ((conv=>whnf); first | exact True.intro | refine ⟨.rfl,?_⟩ | refine ⟨.any,?_⟩ | refine ⟨.nil,?_⟩ | refine ⟨.int (by first | rfl | omega | (simp only [wrs]; omega)),?_⟩)
         ·repeat (first | exact LeVs.nil | ((conv=>whnf); first | exact True.intro | exact .none | exact .ext | exact .row rfl | exact .rowF rfl rfl rfl | refine .cells ?_ | refine ⟨_,_,rfl,.rfl,?_⟩ | refine ⟨_,_,rfl,.any,?_⟩ | refine ⟨_,_,rfl,.nil,?_⟩ | refine ⟨_,_,rfl,.int (by first | rfl | omega | (simp only [wrs]; omega)),?_⟩ | refine ⟨?_,?_⟩))
          done
         ·exact LeFr.same (by kernel_rfl)
    ·try simp only [bls] at hc3
     conv=>whnf
     refine ⟨⟨⟨_,_,rfl⟩,rfl,⟨_,_,rfl⟩,rfl,⟨_,_,rfl⟩,rfl,⟨_,_,rfl⟩,rfl,True.intro⟩,?_⟩
     conv=>whnf
     refine XT.freeze 1 ?_
     conv=>whnf
     refine XT.pass tabX_ok ?_
     conv=>whnf
     refine .wr (WCall.spoil (tspoil_M (s:=[t]) (by simp) (by intro x hx; simp only [List.mem_singleton] at hx; subst hx; exact ⟨by have:=hin.cn; omega,by have:=hin.rn; omega,fun r hr=>by have:=(hin.r r hr).1; omega⟩)) rfl ?_)
     conv=>whnf
     refine FinG.mk none ?_ zqR
     simp only [outs,zqL,fr_by1,fr_rw,fr_tb,fr_dc,fr_vl,fr_cl,tblZ,List.map_nil,wk_len,fr_vl,fr_rw,fr_dc,fr_tb,fr_cl,fr_rw,fr_tb,fr_dc,fr_vl,fr_cl,fr_rw,fr_tb,fr_dc,fr_vl]
end Go.Proofs.YtpgfhkbnngjegaaGreatDoor

namespace Go.Proofs.YtpgfhkbnngjegaaGreatDoor
open Go.RowKit
set_option linter.unusedVariables false
set_option linter.unusedSimpArgs false
theorem qwm0 {p : Prop} (h : p:=by
 refine ⟨?_,?_,?_⟩
 ·refine leEnv_app (by kernel_rfl) (by kernel_rfl) ?_
  repeat ((conv=>whnf); first | exact True.intro | refine ⟨.rfl,?_⟩ | refine ⟨.any,?_⟩ | refine ⟨.nil,?_⟩ | refine ⟨.int (by first | rfl | omega | (simp only [wrs]; omega)),?_⟩)
 ·repeat (first | exact LeVs.nil | ((conv=>whnf); first | exact True.intro | exact .none | exact .ext | exact .row rfl | exact .rowF rfl rfl rfl | refine .cells ?_ | refine ⟨_,_,rfl,.rfl,?_⟩ | refine ⟨_,_,rfl,.any,?_⟩ | refine ⟨_,_,rfl,.nil,?_⟩ | refine ⟨_,_,rfl,.int (by first | rfl | omega | (simp only [wrs]; omega)),?_⟩ | refine ⟨?_,?_⟩))
  done
 ·exact LeFr.nil) : p:=h
theorem qwm1 {p : Prop} (h : p:=by
 conv=>whnf
 refine bT zqS ?_
 conv=>whnf
 refine bT zqS ?_
 conv=>whnf
 refine bT zqS ?_
 conv=>whnf
 refine bT zqS ?_
 conv=>whnf
 refine CallG.mk (row_T _ _ hkn) rfl ?_
 conv=>whnf
 refine bT zqS ?_
 conv=>whnf
 refine CallG.mk (tells_T true true true true true (stW s1) _ _ haI (by omega) (by have:=rwW_len ks; omega)) rfl ?_
 conv=>whnf
 refine bT zqS ?_
 conv=>whnf
 refine bT zqS ?_
 conv=>whnf
 refine ⟨(q + 1),by omega,by omega,?_⟩
 exact qwm0) : p:=h
theorem qwm2 {p : Prop} (h : p:=by
 conv=>whnf
 refine bF zqS ?_
 conv=>whnf
 refine bF zqS ?_
 conv=>whnf
 refine bF zqS ?_
 conv=>whnf
 refine bF zqS ?_
 conv=>whnf
 refine bF zqS ?_
 conv=>whnf
 refine bF zqS ?_
 conv=>whnf
 refine bF zqS ?_
 conv=>whnf
 refine ⟨(q + 1),by omega,by omega,?_⟩
 exact qwm0) : p:=h
theorem qwm3 {p : Prop} (h : p:=by
 conv=>whnf
 refine RegG.par 11 (by kernel_rfl) ?_
 conv=>whnf
 refine CallG.mk (lpairs_T true true true true (stW s1) haI (by omega)) rfl ?_
 conv=>whnf
 refine CallG.mk (short_T _ _ _ _ _ q1.n q1.sh) rfl ?_
 conv=>whnf
 refine CallG.mk (same12 _ _ _ _ _ _ _ _ _ _ (by omega) haI) rfl ?_
 conv=>whnf
 refine bF (by rw [smT_self]; rfl) ?_
 conv=>whnf
 refine ⟨(k + 1),by omega,by omega,?_⟩
 exact qwm0) : p:=h
theorem qwm4 {p : Prop} (h : p:=by
 conv=>whnf
 refine FinG.mk none ?_ zqR
 simp only [outs,zqL,fr_by1,fr_rw,fr_tb,fr_dc,fr_vl,fr_cl,tblZ,List.map_nil,wk_len,fr_vl,fr_rw,fr_dc,fr_tb,fr_cl,fr_rw,fr_tb,fr_dc,fr_vl,fr_cl,fr_rw,fr_tb,fr_dc,fr_vl,fr_cl,fr_rw,fr_tb,fr_dc,fr_vl]) : p:=h
set_option maxRecDepth 20000
def stC (b b2 b3 b4 : Bool) (s : List Tbl) : List TV:=[.sl b (s.map (tbC b2 b3 b4))]
theorem nl_stc (b b2 b3 b4 : Bool) (l : List (List Tbl)) : NlLL (l.map (stC b b2 b3 b4)):=.map fun x _=>.cons (nl_tb _ _ _ _).sl .nil
theorem pu_stc (b b2 b3 b4 : Bool) (l : List (List Tbl)) : PuLL (l.map (stC b b2 b3 b4)):=PuLL_map _ _ fun s _=>by simp [stC,PuL,Pu,pu_tb]
theorem untag_stc (b b2 b3 b4 : Bool) (l : List (List Tbl)) : untagLL (l.map (stC b b2 b3 b4)) = l.map (stC false false false false):=by
  rw [untagLL_map]
  exact List.map_congr_left fun s _=>by simp only [stC,untagL,untag,untag_tb]
theorem smT_self (l : List Tbl) : smL tbE l l = true:=(smL_iff tbE_iff).2 rfl
/-- Tables that come in. -/
structure StI (s : List Tbl) : Prop where
  n : s.length ≤ 9223372036854775807
  sh : ∀ t ∈ s,t.c.length ≤ 9223372036854775807∧t.r.length ≤ 9223372036854775807∧∀ r ∈ t.r,r.length ≤ 9223372036854775807
  i0 : ∀ t ∈ s,t.In0
set_option maxHeartbeats 4000000 in
set_option maxRecDepth 20000 in
theorem lTells_T (a b b2 b3 b4 c d : Bool) (L : List (List Tbl)) (ns : List ByteArray) (ks : List Val) (hln : L.length ≤ 9223372036854775807) (hL : ∀ s ∈ L,StI s) (hns : ns.length ≤ 9223372036854775807) (hkn : ks.length ≤ 9223372036854775807) : XMeets Tryz.prog 4 [.sl a (L.map (stC b b2 b3 b4)),.sl c (ns.map st1),.sl d (ks.map vlC)] (.p (.v (.bool (true))) (nlv _)):=by
 refine XMeets.of_X tabX_ok (avs:=[.p (.sl false (L.map (stC false false false false))) (nl_stc _ _ _ _ _).sl,.p (.sl false (ns.map st1)) (nl_st _).sl,.p (.sl false (ks.map vlC)) (nl_vl _).sl]) [(0,.p (.sl false (L.map (stC false false false false))) (nl_stc _ _ _ _ _).sl),(1,.p (.sl false (ns.map st1)) (nl_st _).sl),(2,.p (.sl false (ks.map vlC)) (nl_vl _).sl)] (by kernel_rfl) Tryz.func4 rfl (by simp [PuL,Pu,tbT,stT,tbC,rwC,vlC,dfC,pu_vl,pu_dc,pu_rw,pu_tb,pu_st,stC,pu_stc]) (by simp only [untagL,untag,tbT,stT,tbC,rwC,vlC,dfC,untag_vl,untag_dc,untag_rw,untag_tb,untag_st,untag_stc]; rfl) rfl rfl ?_
 intro B w0
 conv=>whnf
 refine .ct ?_
 conv=>whnf
 refine CallG.mk (wakes_T) rfl ?_
 conv=>whnf
 refine XT.loop tabX_ok (Y:=Nat) [6,7,8,9,10,11,12,13,14,19,20,21,22,23,24,25,26,27,28,29,30,31,32,33,34,35,36,37,38,39,40,41,42,43,44,45,46,47,48,49,50,51,52,53,54,55,56,57,58,59,60,61,62,63,64,65,66,67,68,69,70,71,72,73,74,75,76,77,78,79,80,81,82,83,84,85,86,87,88,89,90,91,92,93,94] (fun k=>[(19,.p (.v (.int .i64 (k))) (nlv _))]) (fun k=>[]) (fun k=>k ≤ L.length) (fun k=>L.length - k) 0 (Nat.zero_le _) ?_ ?_
 ·exact qwm0
 ·rintro k hk
  conv=>whnf
  refine bS (fun hc1=>?_) (fun hc1=>?_)
  ·try simp only [bls] at hc1
   conv=>whnf
   refine IdxG.map (l:=L) k rfl (by first | omega | (simp only [List.length_map] at *; omega)) ?_; intro s1 hs1 hns1; have q1:=hL _ (List.mem_of_getElem? hs1); have haI:=stW_in q1.i0; have hla:=stW_len s1
   conv=>whnf
   refine ⟨rfl,?_⟩
   conv=>whnf
   refine bS (fun hc2=>?_) (fun hc2=>?_)
   ·try simp only [bls] at hc2
    exact qwm4
   ·try simp only [bls] at hc2
    conv=>whnf
    refine RegG.par 8 (by kernel_rfl) ?_
    conv=>whnf
    refine CallG.mk (short_T _ _ _ _ _ q1.n q1.sh) rfl ?_
    conv=>whnf
    refine IdxG.map (l:=L) 0 rfl (by first | omega | (simp only [List.length_map] at *; omega)) ?_; intro s0 hs0 hns0; have q0:=hL _ (List.mem_of_getElem? hs0); have hlb:=stW_len s0
    conv=>whnf
    refine ⟨rfl,?_⟩
    conv=>whnf
    refine CallG.mk (short_T _ _ _ _ _ q0.n q0.sh) rfl ?_
    conv=>whnf
    refine .ct ?_
    conv=>whnf
    refine CallG.mk (right12_T _ _ _ _ _ haI (by omega)) rfl ?_
    conv=>whnf
    refine .ct ?_
    conv=>whnf
    refine CallG.mk (check_T _ _ _ _ _ haI (by omega)) rfl ?_
    conv=>whnf
    refine RegG.par 28 (by kernel_rfl) ?_
    conv=>whnf
    refine bF zqS ?_
    conv=>whnf
    refine bF zqS ?_
    conv=>whnf
    refine bF zqS ?_
    conv=>whnf
    refine bS (fun hc3=>?_) (fun hc3=>?_)
    ·try simp only [bls] at hc3
     conv=>whnf
     refine bT (by simp only [Bool.not_eq_true',bsEq_f]; assumption) ?_
     conv=>whnf
     refine bF zqS ?_
     conv=>whnf
     refine bT (by simp only [Bool.not_eq_true',bsEq_f]; assumption) ?_
     conv=>whnf
     refine bF zqS ?_
     conv=>whnf
     refine bF zqS ?_
     conv=>whnf
     refine bF zqS ?_
     conv=>whnf
     refine bF zqS ?_
     conv=>whnf
     refine CallG.mk (same_T _ _ _ _ _ _ _ _ _ _ (by omega) haI) rfl ?_
     conv=>whnf
     refine bF zqS ?_
     conv=>whnf
     refine bF zqS ?_
     conv=>whnf
     refine bF zqS ?_
     conv=>whnf
     refine CallG.mk (same12 _ _ _ _ _ _ _ _ _ _ (by omega) haI) rfl ?_
     conv=>whnf
     refine bF zqS ?_
     conv=>whnf
     refine bF zqS ?_
     conv=>whnf
     refine bF zqS ?_
     conv=>whnf
     refine bF zqS ?_
     conv=>whnf
     refine bF zqS ?_
     conv=>whnf
     refine CallG.mk (short_T _ _ _ _ _ q1.n q1.sh) rfl ?_
     conv=>whnf
     refine bF zqS ?_
     conv=>whnf
     refine CallG.mk (same_T _ _ _ _ _ _ _ _ _ _ (by omega) haI) rfl ?_
     conv=>whnf
     refine bF zqS ?_
     conv=>whnf
     refine bF zqS ?_
     conv=>whnf
     refine bF (by rw [smT_self]; rfl) ?_
     conv=>whnf
     refine XT.loop tabX_ok (Y:=Nat) [6,13,14,66,67,68,69,70,71,72,73,74,75,76,77,78,79,80,81,82] (fun q=>[(66,.p (.v (.int .i64 (q))) (nlv _))]) (fun q=>[]) (fun q=>q ≤ ns.length) (fun q=>ns.length - q) 0 (Nat.zero_le _) ?_ ?_
     ·exact qwm0
     ·rintro q hq
      conv=>whnf
      refine bS (fun hc4=>?_) (fun hc4=>?_)
      ·try simp only [bls] at hc4
       conv=>whnf
       refine IdxG.map (l:=ns) q rfl (by first | omega | (simp only [List.length_map] at *; omega)) ?_; intro x1 hx1 hnx1
       conv=>whnf
       refine ⟨rfl,?_⟩
       conv=>whnf
       refine RegG.par 11 (by kernel_rfl) ?_
       conv=>whnf
       refine bS (fun hc5=>?_) (fun hc5=>?_)
       ·try simp only [bls] at hc5
        exact qwm1
       ·try simp only [bls] at hc5
        exact qwm2
      ·try simp only [bls] at hc4
       exact qwm3
    ·try simp only [bls] at hc3
     conv=>whnf
     refine bF (by simp only [Bool.not_eq_false',bsEq_t]; assumption) ?_
     conv=>whnf
     refine bF zqS ?_
     conv=>whnf
     refine bF (by simp only [Bool.not_eq_false',bsEq_t]; assumption) ?_
     conv=>whnf
     refine bF zqS ?_
     conv=>whnf
     refine CallG.mk (same_T _ _ _ _ _ _ _ _ _ _ (by omega) haI) rfl ?_
     conv=>whnf
     refine CallG.mk (same12 _ _ _ _ _ _ _ _ _ _ (by omega) haI) rfl ?_
     conv=>whnf
     refine bF zqS ?_
     conv=>whnf
     refine bF zqS ?_
     conv=>whnf
     refine bF zqS ?_
     conv=>whnf
     refine CallG.mk (short_T _ _ _ _ _ q1.n q1.sh) rfl ?_
     conv=>whnf
     refine bF zqS ?_
     conv=>whnf
     refine CallG.mk (same_T _ _ _ _ _ _ _ _ _ _ (by omega) haI) rfl ?_
     conv=>whnf
     refine bF zqS ?_
     conv=>whnf
     refine bF zqS ?_
     conv=>whnf
     refine bF (by rw [smT_self]; rfl) ?_
     conv=>whnf
     refine XT.loop tabX_ok (Y:=Nat) [6,13,14,66,67,68,69,70,71,72,73,74,75,76,77,78,79,80,81,82] (fun q=>[(66,.p (.v (.int .i64 (q))) (nlv _))]) (fun q=>[]) (fun q=>q ≤ ns.length) (fun q=>ns.length - q) 0 (Nat.zero_le _) ?_ ?_
     ·exact qwm0
     ·rintro q hq
      conv=>whnf
      refine bS (fun hc6=>?_) (fun hc6=>?_)
      ·try simp only [bls] at hc6
       conv=>whnf
       refine IdxG.map (l:=ns) q rfl (by first | omega | (simp only [List.length_map] at *; omega)) ?_; intro x1 hx1 hnx1
       conv=>whnf
       refine ⟨rfl,?_⟩
       conv=>whnf
       refine RegG.par 11 (by kernel_rfl) ?_
       conv=>whnf
       refine bS (fun hc7=>?_) (fun hc7=>?_)
       ·try simp only [bls] at hc7
        exact qwm1
       ·try simp only [bls] at hc7
        exact qwm2
      ·try simp only [bls] at hc6
       exact qwm3
  ·try simp only [bls] at hc1
   exact qwm4
end Go.Proofs.YtpgfhkbnngjegaaGreatDoor

namespace Go.Proofs.YtpgfhkbnngjegaaGreatDoor
open Go.ChangeShapes Go.WideShapes Go.ChangeAt Go.RowKit
theorem GotS.sti {s : List Tbl} (h : GotS s) : StI s:=⟨h.1,h.sh,h.in0⟩
theorem open_sts {els : List (List TV)} (h : ∀ c ∈ els,ShL shSt c) : ∃ l : List (List Tbl),els = l.map (stC false false false false)∧l.length = els.length∧∀ s ∈ l,StI s:=
 image_of fun c hc=>by
  obtain ⟨s,rfl,hs⟩:=open_st (h c hc)
  exact ⟨s,rfl,hs.sti⟩
end Go.Proofs.YtpgfhkbnngjegaaGreatDoor
