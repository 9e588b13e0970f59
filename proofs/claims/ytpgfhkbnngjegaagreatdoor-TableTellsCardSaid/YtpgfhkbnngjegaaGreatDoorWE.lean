/- Tables told by the reference. No condition. -/
import Derived.Test.YtpgfhkbnngjegaaGreatDoorTP
import Derived.Test.YtpgfhkbnngjegaaGreatDoorTP
namespace Go.Proofs.YtpgfhkbnngjegaaGreatDoor
open Go.RowKit
set_option linter.unusedVariables false
set_option linter.unusedSimpArgs false
theorem qwe0 {p : Prop} (h : p:=by
 refine ⟨?_,?_,?_⟩
 ·refine leEnv_app (by kernel_rfl) (by kernel_rfl) ?_
  repeat ((conv=>whnf); first | exact True.intro | refine ⟨.rfl,?_⟩ | refine ⟨.any,?_⟩ | refine ⟨.nil,?_⟩ | refine ⟨.int (by first | rfl | omega | (simp only [wrs]; omega)),?_⟩)
 ·repeat (first | exact LeVs.nil | ((conv=>whnf); first | exact True.intro | exact .none | exact .ext | exact .row rfl | exact .rowF rfl rfl rfl | refine .cells ?_ | refine ⟨_,_,rfl,.rfl,?_⟩ | refine ⟨_,_,rfl,.any,?_⟩ | refine ⟨_,_,rfl,.nil,?_⟩ | refine ⟨_,_,rfl,.int (by first | rfl | omega | (simp only [wrs]; omega)),?_⟩ | refine ⟨?_,?_⟩))
  done
 ·exact LeFr.nil) : p:=h
theorem qwe1 {p : Prop} (h : p:=by
 refine leEnv_app (by kernel_rfl) (by kernel_rfl) ?_
 repeat ((conv=>whnf); first | exact True.intro | refine ⟨.rfl,?_⟩ | refine ⟨.any,?_⟩ | refine ⟨.nil,?_⟩ | refine ⟨.int (by first | rfl | omega | (simp only [wrs]; omega)),?_⟩)) : p:=h
theorem qwe2 {p : Prop} (h : p:=by
 try simp only [bls] at hc2
 conv=>whnf
 refine FinG.mk none ?_ zqR
 simp only [outs,zqL,fr_by1,fr_rw,fr_tb,fr_dc,fr_vl,fr_cl,tblZ,List.map_nil,wk_len,fr_vl,fr_rw,fr_dc,fr_tb,fr_cl,fr_rw,fr_tb,fr_dc,fr_vl]
 rw [smL_yes ha (by first | omega | (simp only [List.length_map] at *; omega)) (by first | omega | (simp only [List.length_map] at *; omega))]) : p:=h
theorem qwe3 {p : Prop} (h : p:=by
 try simp only [bls] at hc1
 conv=>whnf
 refine FinG.mk none ?_ zqR
 simp only [outs,zqL,fr_by1,fr_rw,fr_tb,fr_dc,fr_vl,fr_cl,tblZ,List.map_nil,wk_len,fr_vl,fr_rw,fr_dc,fr_tb,fr_cl,fr_rw,fr_tb,fr_dc,fr_vl]
 rw [smL_len (by first | omega | (simp only [List.length_map] at *; omega))]) : p:=h
theorem qwe4 {p : Prop} (h : p:=by
 conv=>whnf
 refine FinG.mk none ?_ zqR
 simp only [outs,zqL,fr_by1,fr_rw,fr_tb,fr_dc,fr_vl,fr_cl,tblZ,List.map_nil,wk_len,fr_vl,fr_rw,fr_dc,fr_tb,fr_cl,fr_rw,fr_tb,fr_dc,fr_vl]) : p:=h
theorem qwe5 {p : Prop} (h : p:=by
 conv=>whnf
 refine ⟨(k + 1),⟨(by first | omega | (simp only [List.length_map] at *; omega)),smA_s ha hx hy (by assumption)⟩,(by first | omega | (simp only [List.length_map] at *; omega)),?_⟩
 exact qwe0) : p:=h
set_option maxRecDepth 20000
set_option maxRecDepth 20000 in
theorem sameR12 (b1 b2 b3 b4 : Bool) (l m : List (List Val)) (hl : l.length ≤ 100000) (hr : ∀ r ∈ l,r.length ≤ 100000) : XMeets Tryz.prog 39 [.sl b1 (l.map (rwC b2)),.sl b3 (m.map (rwC b4))] (.p (.v (.bool (smL (smL vlE) l m))) (nlv _)):=by
 refine XMeets.of_X tabX_ok (avs:=[.p (.sl false (l.map (rwC false))) (nl_rw _ _).sl,.p (.sl false (m.map (rwC false))) (nl_rw _ _).sl]) [(0,.p (.sl false (l.map (rwC false))) (nl_rw _ _).sl),(1,.p (.sl false (m.map (rwC false))) (nl_rw _ _).sl)] (by kernel_rfl) Tryz.func39 rfl (by simp [PuL,Pu,tbT,stT,tbC,rwC,vlC,dfC,pu_vl,pu_dc,pu_rw,pu_tb,pu_cl]) (by simp only [untagL,untag,tbT,stT,tbC,rwC,vlC,dfC,clC,untag_vl,untag_dc,untag_rw,untag_tb,untag_cl]; rfl) rfl rfl ?_
 intro B w0
 conv=>whnf
 refine bS (fun hc1=>?_) (fun hc1=>?_)
 ·exact qwe3
 ·try simp only [bls] at hc1
  conv=>whnf
  refine XT.loop tabX_ok (Y:=Nat) [4,5,6,14,15,16,17,18,19,20,21,22,23,24,25,26,27,28,29,30,31,32,33,34,35,36,37,38,39,40,41,42,43,44,45,46,47,48,49,50,51,52] (fun k=>[(14,.p (.v (.int .i64 (k))) (nlv _))]) (fun k=>[]) (fun k=>k ≤ l.length∧smA (smL vlE) l m k) (fun k=>l.length - k) 0 ⟨Nat.zero_le _,smA_0 _ _ _⟩ ?_ ?_
  ·exact qwe0
  ·rintro k ⟨hk,ha⟩
   conv=>whnf
   refine bS (fun hc2=>?_) (fun hc2=>?_)
   ·try simp only [bls] at hc2
    conv=>whnf
    refine RegG.par 11 (by kernel_rfl) ?_
    conv=>whnf
    refine IdxG.map (f:=rwC false) (l:=l) k rfl (by first | omega | (simp only [List.length_map] at *; omega)) ?_; intro x hx hkx; have hxl:=hr _ (List.mem_of_getElem? hx)
    conv=>whnf
    refine ⟨rfl,?_⟩
    conv=>whnf
    refine IdxG.map (f:=rwC false) (l:=m) k rfl (by first | omega | (simp only [List.length_map] at *; omega)) ?_; intro y hy hky
    conv=>whnf
    refine ⟨rfl,?_⟩
    conv=>whnf
    refine bS (fun hc3=>?_) (fun hc3=>?_)
    ·try simp only [bls] at hc3
     conv=>whnf
     refine FinG.mk none ?_ zqR
     simp only [outs,zqL,fr_by1,fr_rw,fr_tb,fr_dc,fr_vl,fr_cl,tblZ,List.map_nil,wk_len,fr_vl,fr_rw,fr_dc,fr_tb,fr_cl,fr_rw,fr_tb,fr_dc,fr_vl]
     rw [smL_no hx hy (smL_len (by first | omega | (simp only [List.length_map] at *; omega)))]
    ·try simp only [bls] at hc3
     conv=>whnf
     refine IdxG.map (f:=rwC false) (l:=l) k rfl (by first | omega | (simp only [List.length_map] at *; omega)) ?_; intro x2 hx2 hkx2; have hxl:=hr _ (List.mem_of_getElem? hx); obtain rfl : x = x2:=Option.some.inj (hx.symm.trans hx2); clear hx2
     conv=>whnf
     refine ⟨rfl,?_⟩
     conv=>whnf
     refine XT.loop tabX_ok (Y:=Nat) [4,6,33,34,35,36,37,38,39,40,41,42,43,44,45,46,47,48,49,50,51] (fun j=>[(33,.p (.v (.int .i64 (j))) (nlv _))]) (fun j=>[]) (fun j=>j ≤ x.length∧smA vlE x y j) (fun j=>x.length - j) 0 ⟨Nat.zero_le _,smA_0 _ _ _⟩ ?_ ?_
     ·exact qwe0
     ·rintro j ⟨hj,hb⟩
      conv=>whnf
      refine bS (fun hc4=>?_) (fun hc4=>?_)
      ·try simp only [bls] at hc4
       conv=>whnf
       refine RegG.par 15 (by kernel_rfl) ?_
       conv=>whnf
       refine IdxG.map (f:=rwC false) (l:=l) k rfl (by first | omega | (simp only [List.length_map] at *; omega)) ?_; intro x2 hx2 hkx2; have hxl:=hr _ (List.mem_of_getElem? hx); obtain rfl : x = x2:=Option.some.inj (hx.symm.trans hx2); clear hx2
       conv=>whnf
       refine ⟨rfl,?_⟩
       conv=>whnf
       refine IdxG.map (f:=vlC) (l:=x) j rfl (by first | omega | (simp only [List.length_map] at *; omega)) ?_; intro u hu hku
       conv=>whnf
       refine ⟨rfl,?_⟩
       conv=>whnf
       refine IdxG.map (f:=rwC false) (l:=m) k rfl (by first | omega | (simp only [List.length_map] at *; omega)) ?_; intro y2 hy2 hky2; obtain rfl : y = y2:=Option.some.inj (hy.symm.trans hy2); clear hy2
       conv=>whnf
       refine ⟨rfl,?_⟩
       conv=>whnf
       refine IdxG.map (f:=vlC) (l:=y) j rfl (by first | omega | (simp only [List.length_map] at *; omega)) ?_; intro v hv hkv
       conv=>whnf
       refine ⟨rfl,?_⟩
       conv=>whnf
       refine BinG.mk rfl rfl (neVl_run _ _ _ _ _ _ _ _) ?_
       conv=>whnf
       refine bS (fun hc5=>?_) (fun hc5=>?_)
       ·try simp only [bls] at hc5
        conv=>whnf
        refine FinG.mk none ?_ zqR
        simp only [outs,zqL,fr_by1,fr_rw,fr_tb,fr_dc,fr_vl,fr_cl,tblZ,List.map_nil,wk_len,fr_vl,fr_rw,fr_dc,fr_tb,fr_cl,fr_rw,fr_tb,fr_dc,fr_vl]
        rw [smL_no hx hy (smL_no hu hv (by assumption))]
       ·try simp only [bls] at hc5
        conv=>whnf
        refine ⟨(j + 1),⟨(by first | omega | (simp only [List.length_map] at *; omega)),smA_s hb hu hv (by assumption)⟩,(by first | omega | (simp only [List.length_map] at *; omega)),?_⟩
        exact qwe0
      ·try simp only [bls] at hc4
       conv=>whnf
       refine ⟨(k + 1),⟨(by first | omega | (simp only [List.length_map] at *; omega)),smA_s ha hx hy (smL_yes hb (by omega) (by omega))⟩,(by first | omega | (simp only [List.length_map] at *; omega)),?_⟩
       exact qwe0
   ·exact qwe2
set_option maxRecDepth 20000 in
theorem sameT12 (b1 b2 b3 c1 c2 c3 : Bool) (s t : Tbl) (hc : s.c.length ≤ 100000) (hl : s.r.length ≤ 100000) (hrr : ∀ r ∈ s.r,r.length ≤ 100000) : XMeets Tryz.prog 40 [tbT b1 b2 b3 s,tbT c1 c2 c3 t] (.p (.v (.bool (tbE s t))) (nlv _)):=by
 refine XMeets.of_X tabX_ok (avs:=[.ag [.p (.v (.string (s.n))) (nlv _),.p (.sl false (s.c.map dfC)) (nl_dc _).sl,.p (.sl false (s.r.map (rwC false))) (nl_rw _ _).sl],.ag [.p (.v (.string (t.n))) (nlv _),.p (.sl false (t.c.map dfC)) (nl_dc _).sl,.p (.sl false (t.r.map (rwC false))) (nl_rw _ _).sl]]) [(0,.ag [.p (.v (.string (s.n))) (nlv _),.p (.sl false (s.c.map dfC)) (nl_dc _).sl,.p (.sl false (s.r.map (rwC false))) (nl_rw _ _).sl]),(1,.ag [.p (.v (.string (t.n))) (nlv _),.p (.sl false (t.c.map dfC)) (nl_dc _).sl,.p (.sl false (t.r.map (rwC false))) (nl_rw _ _).sl])] (by kernel_rfl) Tryz.func40 rfl (by simp [PuL,Pu,tbT,stT,tbC,rwC,vlC,dfC,pu_vl,pu_dc,pu_rw,pu_tb,pu_cl]) (by simp only [untagL,untag,tbT,stT,tbC,rwC,vlC,dfC,clC,untag_vl,untag_dc,untag_rw,untag_tb,untag_cl]; rfl) rfl rfl ?_
 intro B w0
 conv=>whnf
 refine bS (fun hc1=>?_) (fun hc1=>?_)
 ·try simp only [bls] at hc1
  conv=>whnf
  refine bT (by simp only [Bool.not_eq_true',bsEq_f]; assumption) ?_
  conv=>whnf
  refine bT (by simp only [Bool.not_eq_true',bsEq_f]; assumption) ?_
  conv=>whnf
  refine bT (by simp only [Bool.not_eq_true',bsEq_f]; assumption) ?_
  conv=>whnf
  refine bT (by simp only [Bool.not_eq_true',bsEq_f]; assumption) ?_
  conv=>whnf
  refine bT (by simp only [Bool.not_eq_true',bsEq_f]; assumption) ?_
  conv=>whnf
  refine bT (by simp only [Bool.not_eq_true',bsEq_f]; assumption) ?_
  conv=>whnf
  refine bT (by simp only [Bool.not_eq_true',bsEq_f]; assumption) ?_
  conv=>whnf
  refine FinG.mk none ?_ zqR
  simp only [outs,zqL,fr_by1,fr_rw,fr_tb,fr_dc,fr_vl,fr_cl,tblZ,List.map_nil,wk_len,fr_vl,fr_rw,fr_dc,fr_tb,fr_cl,fr_rw,fr_tb,fr_dc,fr_vl]
  have hb : bsEq s.n t.n = false:=by simp only [bsEq_f]; assumption
  unfold tbE
  rw [hb]
  rfl
 ·try simp only [bls] at hc1
  conv=>whnf
  refine bF (by simp only [Bool.not_eq_false',bsEq_t]; assumption) ?_
  conv=>whnf
  refine bF (by simp only [Bool.not_eq_false',bsEq_t]; assumption) ?_
  conv=>whnf
  refine bF (by simp only [Bool.not_eq_false',bsEq_t]; assumption) ?_
  conv=>whnf
  refine bF (by simp only [Bool.not_eq_false',bsEq_t]; assumption) ?_
  conv=>whnf
  refine bF (by simp only [Bool.not_eq_false',bsEq_t]; assumption) ?_
  conv=>whnf
  refine bF (by simp only [Bool.not_eq_false',bsEq_t]; assumption) ?_
  conv=>whnf
  refine bF (by simp only [Bool.not_eq_false',bsEq_t]; assumption) ?_
  conv=>whnf
  refine bS (fun hc2=>?_) (fun hc2=>?_)
  ·try simp only [bls] at hc2
   conv=>whnf
   refine FinG.mk none ?_ zqR
   simp only [outs,zqL,fr_by1,fr_rw,fr_tb,fr_dc,fr_vl,fr_cl,tblZ,List.map_nil,wk_len,fr_vl,fr_rw,fr_dc,fr_tb,fr_cl,fr_rw,fr_tb,fr_dc,fr_vl]
   unfold tbE
   rw [smL_len (q:=dfE) (by first | omega | (simp only [List.length_map] at *; omega)),Bool.and_false]
   rfl
  ·try simp only [bls] at hc2
   conv=>whnf
   refine XT.loop tabX_ok (Y:=Nat) [4,5,23,24,25,26,27,28,29,30,31,32,33,34,35,36,37] (fun k=>[(23,.p (.v (.int .i64 (k))) (nlv _))]) (fun k=>[]) (fun k=>k ≤ s.c.length∧smA dfE s.c t.c k) (fun k=>s.c.length - k) 0 ⟨Nat.zero_le _,smA_0 _ _ _⟩ ?_ ?_
   ·exact qwe0
   ·rintro k ⟨hk,ha⟩
    conv=>whnf
    refine bS (fun hc3=>?_) (fun hc3=>?_)
    ·try simp only [bls] at hc3
     conv=>whnf
     refine RegG.par 11 (by kernel_rfl) ?_
     conv=>whnf
     refine IdxG.map (f:=dfC) (l:=s.c) k rfl (by first | omega | (simp only [List.length_map] at *; omega)) ?_; intro x hx hkx
     conv=>whnf
     refine ⟨rfl,?_⟩
     conv=>whnf
     refine IdxG.map (f:=dfC) (l:=t.c) k rfl (by first | omega | (simp only [List.length_map] at *; omega)) ?_; intro y hy hky
     conv=>whnf
     refine ⟨rfl,?_⟩
     conv=>whnf
     refine BinG.mk rfl rfl (neDf_run _ _ _ _ _ _ _ _ _ _) ?_
     conv=>whnf
     refine bS (fun hc4=>?_) (fun hc4=>?_)
     ·try simp only [bls] at hc4
      conv=>whnf
      refine FinG.mk none ?_ zqR
      simp only [outs,zqL,fr_by1,fr_rw,fr_tb,fr_dc,fr_vl,fr_cl,tblZ,List.map_nil,wk_len,fr_vl,fr_rw,fr_dc,fr_tb,fr_cl,fr_rw,fr_tb,fr_dc,fr_vl]
      unfold tbE
      rw [smL_no hx hy (by assumption),Bool.and_false]
      rfl
     ·try simp only [bls] at hc4
      exact qwe5
    ·try simp only [bls] at hc3
     conv=>whnf
     refine .ct ?_
     conv=>whnf
     refine CallG.mk (sameR12 _ _ _ _ _ _ (by first | assumption | omega) (by first | assumption | exact hrr)) rfl ?_
     conv=>whnf
     refine FinG.mk none ?_ zqR
     simp only [outs,zqL,fr_by1,fr_rw,fr_tb,fr_dc,fr_vl,fr_cl,tblZ,List.map_nil,wk_len,fr_vl,fr_rw,fr_dc,fr_tb,fr_cl,fr_rw,fr_tb,fr_dc,fr_vl]
     have hb : bsEq s.n t.n = true:=by simp only [bsEq_t]; assumption
     unfold tbE
     rw [hb,smL_yes ha (by first | omega | (simp only [List.length_map] at *; omega)) (by first | omega | (simp only [List.length_map] at *; omega))]
     rfl
set_option maxRecDepth 20000 in
theorem same12 (b1 b2 b3 b4 c1 c2 c3 c4 : Bool) (l m : List Tbl) (hl : l.length ≤ 100000) (hs : ∀ t ∈ l,t.In) : XMeets Tryz.prog 30 [stT b1 b2 b3 b4 l,stT c1 c2 c3 c4 m] (.p (.v (.bool (smL tbE l m))) (nlv _)):=by
 refine XMeets.of_X tabX_ok (avs:=[.ag [.p (.sl false (l.map (tbC false false false))) (nl_tb _ _ _ _).sl],.ag [.p (.sl false (m.map (tbC false false false))) (nl_tb _ _ _ _).sl]]) [(0,.ag [.p (.sl false (l.map (tbC false false false))) (nl_tb _ _ _ _).sl]),(1,.ag [.p (.sl false (m.map (tbC false false false))) (nl_tb _ _ _ _).sl])] (by kernel_rfl) Tryz.func30 rfl (by simp [PuL,Pu,tbT,stT,tbC,rwC,vlC,dfC,pu_vl,pu_dc,pu_rw,pu_tb,pu_cl]) (by simp only [untagL,untag,tbT,stT,tbC,rwC,vlC,dfC,clC,untag_vl,untag_dc,untag_rw,untag_tb,untag_cl]; rfl) rfl rfl ?_
 intro B w0
 conv=>whnf
 refine bS (fun hc1=>?_) (fun hc1=>?_)
 ·exact qwe3
 ·try simp only [bls] at hc1
  conv=>whnf
  refine XT.loop tabX_ok (Y:=Nat) [4,5,16,17,18,19,20,21,22,23,24,25,26,27,28,29,30,31] (fun k=>[(16,.p (.v (.int .i64 (k))) (nlv _))]) (fun k=>[]) (fun k=>k ≤ l.length∧smA tbE l m k) (fun k=>l.length - k) 0 ⟨Nat.zero_le _,smA_0 _ _ _⟩ ?_ ?_
  ·exact qwe0
  ·rintro k ⟨hk,ha⟩
   conv=>whnf
   refine bS (fun hc2=>?_) (fun hc2=>?_)
   ·try simp only [bls] at hc2
    conv=>whnf
    refine RegG.par 12 (by kernel_rfl) ?_
    conv=>whnf
    refine IdxG.map (f:=tbC false false false) (l:=l) k rfl (by first | omega | (simp only [List.length_map] at *; omega)) ?_; intro x hx hkx; have hin:=hs _ (List.mem_of_getElem? hx)
    conv=>whnf
    refine ⟨rfl,?_⟩
    conv=>whnf
    refine IdxG.map (f:=tbC false false false) (l:=m) k rfl (by first | omega | (simp only [List.length_map] at *; omega)) ?_; intro y hy hky
    conv=>whnf
    refine ⟨rfl,?_⟩
    conv=>whnf
    refine CallG.mk (sameT12 _ _ _ _ _ _ x y hin.cn hin.rn (fun r hr=>(hin.r r hr).1)) rfl ?_
    conv=>whnf
    refine bS (fun hc3=>?_) (fun hc3=>?_)
    ·try simp only [bls] at hc3
     conv=>whnf
     refine FinG.mk none ?_ zqR
     simp only [outs,zqL,fr_by1,fr_rw,fr_tb,fr_dc,fr_vl,fr_cl,tblZ,List.map_nil,wk_len,fr_vl,fr_rw,fr_dc,fr_tb,fr_cl,fr_rw,fr_tb,fr_dc,fr_vl]
     rw [smL_no hx hy (by assumption)]
    ·try simp only [bls] at hc3
     exact qwe5
   ·exact qwe2
def atI (s : List Tbl) (n : ByteArray) : Int:=ixP (fun t=>bsEq t.n n) s
set_option maxRecDepth 20000 in
theorem at12 (b b1 b2 b3 : Bool) (s : List Tbl) (n : ByteArray) (hn : s.length ≤ 100000) : XMeets Tryz.prog 71 [stT b b1 b2 b3 s,.v (.string n)] (.p (.v (.int .i64 (atI s n))) (nlv _)):=by
 refine XMeets.of_X tabX_ok (avs:=[.ag [.p (.sl false (s.map (tbC false false false))) (nl_tb _ _ _ _).sl],.p (.v (.string n)) (nlv _)]) [(0,.ag [.p (.sl false (s.map (tbC false false false))) (nl_tb _ _ _ _).sl]),(1,.p (.v (.string n)) (nlv _))] (by kernel_rfl) Tryz.func71 rfl (by simp [PuL,Pu,tbT,stT,tbC,rwC,vlC,dfC,pu_vl,pu_dc,pu_rw,pu_tb,pu_cl]) (by simp only [untagL,untag,tbT,stT,tbC,rwC,vlC,dfC,clC,untag_vl,untag_dc,untag_rw,untag_tb,untag_cl]; rfl) rfl rfl ?_
 intro B w0
 conv=>whnf
 refine XT.loop tabX_ok (Y:=Nat) [4,5,6,10,11,12,13,14,15,16,17,18,19,20] (fun k=>[(10,.p (.v (.int .i64 (k))) (nlv _))]) (fun k=>[]) (fun k=>k ≤ s.length∧noP (fun t=>bsEq t.n n) s k) (fun k=>s.length - k) 0 ⟨Nat.zero_le _,noP_0⟩ ?_ ?_
 ·exact qwe0
 ·rintro k ⟨hk,hP⟩
  conv=>whnf
  refine bS (fun hc1=>?_) (fun hc1=>?_)
  ·try simp only [bls] at hc1
   conv=>whnf
   refine IdxG.map (l:=s) _ rfl (by first | omega | (simp only [List.length_map] at *; omega)) ?_; intro x1 hx1 hnx1
   conv=>whnf
   refine ⟨rfl,?_⟩
   conv=>whnf
   refine bS (fun hc2=>?_) (fun hc2=>?_)
   ·try simp only [bls] at hc2
    conv=>whnf
    refine FinG.mk none ?_ zqR
    simp only [outs,zqL,fr_by1,fr_rw,fr_tb,fr_dc,fr_vl,fr_cl,tblZ,List.map_nil,wk_len,fr_vl,fr_rw,fr_dc,fr_tb,fr_cl,fr_rw,fr_tb,fr_dc,fr_vl]
    have hX : atI s n = (k : Int):=ixP_t hP hx1 (by first | assumption | (simp only [bsEq_t,bsEq_f]; assumption) | simp_all)
    rw [hX]
   ·try simp only [bls] at hc2
    conv=>whnf
    refine ⟨(k + 1),⟨by omega,noP_s hP hx1 (by first | assumption | (simp only [bsEq_t,bsEq_f]; assumption) | simp_all)⟩,by omega,?_⟩
    exact qwe0
  ·try simp only [bls] at hc1
   conv=>whnf
   refine FinG.mk none ?_ zqR
   simp only [outs,zqL,fr_by1,fr_rw,fr_tb,fr_dc,fr_vl,fr_cl,tblZ,List.map_nil,wk_len,fr_vl,fr_rw,fr_dc,fr_tb,fr_cl,fr_rw,fr_tb,fr_dc,fr_vl]
   have hX : atI s n = -1:=ixP_f hP (by omega)
   rw [hX]
theorem rig_at {t : Tbl} (h : TabF t) {r : List Val} (hr : r ∈ t.r) {j : Nat} {v : Val} (hv : r[j]? = some v) : rightB v = true:=List.all_eq_true.1 (row_ok (h.w r hr)) _ (List.mem_of_getElem? hv)
set_option maxRecDepth 20000 in
theorem pairs12 (b b1 b2 b3 : Bool) (s : List Tbl) (hs : ∀ t ∈ s,t.In) (hn : s.length ≤ 100000) (hF : PRH s) : XMeets Tryz.prog 73 [stT b b1 b2 b3 s] (.ow 62 2 ((prL s).map clC) (nl_cl _)):=by
 refine XMeets.of_XM [(2,.p (.v (.bool true)) (nlv _))] tabX_ok (avs:=[.ag [.p (.sl false (s.map (tbC false false false))) (nl_tb _ _ _ _).sl]]) [(0,.ag [.p (.sl false (s.map (tbC false false false))) (nl_tb _ _ _ _).sl])] (by kernel_rfl) Tryz.func73 rfl (by simp [PuL,Pu,tbT,stT,tbC,rwC,vlC,dfC,pu_vl,pu_dc,pu_rw,pu_tb,pu_cl]) (by simp only [untagL,untag,tbT,stT,tbC,rwC,vlC,dfC,clC,untag_vl,untag_dc,untag_rw,untag_tb,untag_cl]; rfl) rfl rfl ?_
 intro B w0
 conv=>whnf
 refine XT.nilr 3 62 2 rfl rfl ?_
 conv=>whnf
 refine XT.pass tabX_ok ?_
 conv=>whnf
 refine XT.pass tabX_ok ?_
 conv=>whnf
 refine XT.loop tabX_ok (Y:=Nat) [3,5,13,14,15,16,17,18,19,20,21,22,23,24,25,26,27,28] (fun k=>[(13,.p (.v (.int .i64 (k))) (nlv _)),(3,.row 1)]) (fun k=>[(1,.row 62 2 ((pr1 s k).map clC) (nl_cl _))]) (fun k=>k ≤ s.length) (fun k=>s.length - k) 0 (Nat.zero_le _) ?_ ?_
 ·refine ⟨?_,?_,?_⟩
  ·exact qwe1
  ·repeat (first | exact LeVs.nil | ((conv=>whnf); first | exact True.intro | exact .none | exact .ext | exact .row rfl | exact .rowF rfl rfl rfl | refine .cells ?_ | refine ⟨_,_,rfl,.rfl,?_⟩ | refine ⟨_,_,rfl,.any,?_⟩ | refine ⟨_,_,rfl,.nil,?_⟩ | refine ⟨_,_,rfl,.int (by first | rfl | omega | (simp only [wrs]; omega)),?_⟩ | refine ⟨?_,?_⟩))
   done
  ·exact LeFr.same (by kernel_rfl)
 ·rintro k hk
  conv=>whnf
  refine bS (fun hc1=>?_) (fun hc1=>?_)
  ·try simp only [bls] at hc1
   conv=>whnf
   refine IdxG.map (l:=s) k rfl (by first | omega | (simp only [List.length_map] at *; omega)) ?_; intro t1 ht1 hnt1; have hF1:=hF.F _ (List.mem_of_getElem? ht1); have hin1:=hs _ (List.mem_of_getElem? ht1)
   conv=>whnf
   refine ⟨rfl,?_⟩
   conv=>whnf
   refine RegG.par 10 (by kernel_rfl) ?_
   conv=>whnf
   refine ⟨by have:=hF1.n; have h1 : ((⟨#[1]⟩ : ByteArray).size) = 1:=rfl; have h2 : ((⟨#[0]⟩ : ByteArray).size) = 1:=rfl; (try simp only [ByteArray.size_append]); omega,?_⟩
   conv=>whnf
   refine ⟨by have:=hF1.n; have h1 : ((⟨#[1]⟩ : ByteArray).size) = 1:=rfl; have h2 : ((⟨#[0]⟩ : ByteArray).size) = 1:=rfl; (try simp only [ByteArray.size_append]); omega,?_⟩
   conv=>whnf
   refine CallG.mk (head12_T _ _ _ _ (by have:=hF1.c; omega) (fun d hd=>by have:=hF1.d d hd; omega)) rfl ?_
   conv=>whnf
   refine ⟨_,rfl,?_⟩
   conv=>whnf
   refine ⟨ApOk.lit rfl,?_⟩
   conv=>whnf
   refine ⟨by have:=hF.n; simp only [List.length_append,List.length_map,List.length_cons,List.length_nil,pr1,List.length_take]; omega,?_⟩
   conv=>whnf
   refine ⟨(k + 1),by omega,by omega,?_⟩
   refine ⟨?_,?_,?_⟩
   ·exact qwe1
   ·repeat (first | exact LeVs.nil | ((conv=>whnf); first | exact True.intro | exact .none | exact .ext | exact .row rfl | exact .rowF rfl rfl rfl | exact .row ((pr1_s ht1)) | refine .cells ?_ | refine ⟨_,_,rfl,.rfl,?_⟩ | refine ⟨_,_,rfl,.any,?_⟩ | refine ⟨_,_,rfl,.nil,?_⟩ | refine ⟨_,_,rfl,.int (by first | rfl | omega | (simp only [wrs]; omega)),?_⟩ | refine ⟨?_,?_⟩))
    done
   ·exact LeFr.same (by kernel_rfl)
  ·try simp only [bls] at hc1
   conv=>whnf
   refine XT.loop tabX_ok (Y:=Nat) [3,7,9,32,33,34,35,36,37,38,39,40,41,42,43,44,45,46,47,48,49,50,51,52,53,54,55,56,57,58] (fun q=>[(32,.p (.v (.int .i64 (q))) (nlv _)),(3,.row 1)]) (fun q=>[(1,.row 62 2 ((pr2 s q).map clC) (nl_cl _))]) (fun q=>q ≤ s.length) (fun q=>s.length - q) 0 (Nat.zero_le _) ?_ ?_
   ·refine ⟨?_,?_,?_⟩
    ·exact qwe1
    ·repeat (first | exact LeVs.nil | ((conv=>whnf); first | exact True.intro | exact .none | exact .ext | exact .row rfl | exact .rowF rfl rfl rfl | exact .row ((pr1_e hk (by omega))) | refine .cells ?_ | refine ⟨_,_,rfl,.rfl,?_⟩ | refine ⟨_,_,rfl,.any,?_⟩ | refine ⟨_,_,rfl,.nil,?_⟩ | refine ⟨_,_,rfl,.int (by first | rfl | omega | (simp only [wrs]; omega)),?_⟩ | refine ⟨?_,?_⟩))
     done
    ·exact LeFr.same (by kernel_rfl)
   ·rintro q hq
    conv=>whnf
    refine bS (fun hc2=>?_) (fun hc2=>?_)
    ·try simp only [bls] at hc2
     conv=>whnf
     refine IdxG.map (l:=s) q rfl (by first | omega | (simp only [List.length_map] at *; omega)) ?_; intro t2 ht2 hnt2; have hF2:=hF.F _ (List.mem_of_getElem? ht2); have hin2:=hs _ (List.mem_of_getElem? ht2); have hrl2:=hF2.r
     conv=>whnf
     refine ⟨rfl,?_⟩
     conv=>whnf
     refine XT.loop tabX_ok (Y:=Nat) [3,9,39,40,41,42,43,44,45,46,47,48,49,50,51,52,53,54,55,56,57] (fun j=>[(39,.p (.v (.int .i64 (j))) (nlv _)),(3,.row 1)]) (fun j=>[(1,.row 62 2 ((pr3 s q t2 j).map clC) (nl_cl _))]) (fun j=>j ≤ t2.r.length) (fun j=>t2.r.length - j) 0 (Nat.zero_le _) ?_ ?_
     ·refine ⟨?_,?_,?_⟩
      ·exact qwe1
      ·repeat (first | exact LeVs.nil | ((conv=>whnf); first | exact True.intro | exact .none | exact .ext | exact .row rfl | exact .rowF rfl rfl rfl | exact .row ((by simp [pr3])) | refine .cells ?_ | refine ⟨_,_,rfl,.rfl,?_⟩ | refine ⟨_,_,rfl,.any,?_⟩ | refine ⟨_,_,rfl,.nil,?_⟩ | refine ⟨_,_,rfl,.int (by first | rfl | omega | (simp only [wrs]; omega)),?_⟩ | refine ⟨?_,?_⟩))
       done
      ·exact LeFr.same (by kernel_rfl)
     ·rintro j hj
      conv=>whnf
      refine bS (fun hc3=>?_) (fun hc3=>?_)
      ·try simp only [bls] at hc3
       conv=>whnf
       refine IdxG.map (l:=t2.r) j rfl (by first | omega | (simp only [List.length_map] at *; omega)) ?_; intro r1 hr1 hnr1; have hm1:=List.mem_of_getElem? hr1
       conv=>whnf
       refine ⟨rfl,?_⟩
       conv=>whnf
       refine RegG.par 13 (by kernel_rfl) ?_
       conv=>whnf
       refine CallG.mk (key12_T _ _ _ _ (by have:=hF2.c; omega)) rfl ?_
       conv=>whnf
       refine IdxG.map (l:=r1) (keyI t2.c).toNat (by have:=hF2.k0; omega) (by have:=key_at hF2 hm1; simpa using this) ?_; intro v1 hv1 hnv1; have hok1:=(hin2.r _ hm1).2 _ (List.mem_of_getElem? hv1)
       conv=>whnf
       refine ⟨rfl,?_⟩
       conv=>whnf
       refine CallG.mk (rk12_T _ _ (by have:=hF2.n; omega) hok1 (by first | assumption | exact rig_at hF2 hm1 hv1)) rfl ?_
       conv=>whnf
       refine CallG.mk (rb12_T _ _ (hin2.r _ hm1).1 (hin2.r _ hm1).2 (row_ok (hF2.w _ hm1))) rfl ?_
       conv=>whnf
       refine ⟨ApOk.lit rfl,?_⟩
       conv=>whnf
       refine ⟨by have:=hF.n; have:=pr3_len hF.F q j hF2; simp only [List.length_append,List.length_map,List.length_cons,List.length_nil]; omega,?_⟩
       conv=>whnf
       refine ⟨(j + 1),by omega,by omega,?_⟩
       refine ⟨?_,?_,?_⟩
       ·exact qwe1
       ·repeat (first | exact LeVs.nil | ((conv=>whnf); first | exact True.intro | exact .none | exact .ext | exact .row rfl | exact .rowF rfl rfl rfl | exact .row ((pr3_s hr1 hv1)) | refine .cells ?_ | refine ⟨_,_,rfl,.rfl,?_⟩ | refine ⟨_,_,rfl,.any,?_⟩ | refine ⟨_,_,rfl,.nil,?_⟩ | refine ⟨_,_,rfl,.int (by first | rfl | omega | (simp only [wrs]; omega)),?_⟩ | refine ⟨?_,?_⟩))
        done
       ·exact LeFr.same (by kernel_rfl)
      ·try simp only [bls] at hc3
       conv=>whnf
       refine ⟨(q + 1),by omega,by omega,?_⟩
       refine ⟨?_,?_,?_⟩
       ·exact qwe1
       ·repeat (first | exact LeVs.nil | ((conv=>whnf); first | exact True.intro | exact .none | exact .ext | exact .row rfl | exact .rowF rfl rfl rfl | exact .row ((pr3_e ht2 hj (by omega))) | refine .cells ?_ | refine ⟨_,_,rfl,.rfl,?_⟩ | refine ⟨_,_,rfl,.any,?_⟩ | refine ⟨_,_,rfl,.nil,?_⟩ | refine ⟨_,_,rfl,.int (by first | rfl | omega | (simp only [wrs]; omega)),?_⟩ | refine ⟨?_,?_⟩))
        done
       ·exact LeFr.same (by kernel_rfl)
    ·try simp only [bls] at hc2
     conv=>whnf
     refine FinG.mk (some 1) ?_ (by rintro _ ⟨⟩; trivial)
     simp only [outs,zqL,fr_by1,fr_rw,fr_tb,fr_dc,fr_vl,fr_cl,tblZ,List.map_nil,wk_len,fr_vl,fr_rw,fr_dc,fr_tb,fr_cl,fr_rw,fr_tb,fr_dc,fr_vl]
     rw [pr2_e hq (by omega)]
theorem clE_self (x : Cel) : clE x x = true:=(clE_iff x x).2 rfl
set_option maxRecDepth 20000 in
theorem lpairs_T (b b1 b2 b3 : Bool) (s : List Tbl) (hs : ∀ t ∈ s,t.In) (hn : s.length ≤ 100000) : XMeets Tryz.prog 33 [stT b b1 b2 b3 s,.v (.bool (stoB s))] (.p (.v (.bool (true))) (nlv _)):=by
 refine XMeets.of_X tabX_ok (avs:=[.ag [.p (.sl false (s.map (tbC false false false))) (nl_tb _ _ _ _).sl],.p (.v (.bool (stoB s))) (nlv _)]) [(0,.ag [.p (.sl false (s.map (tbC false false false))) (nl_tb _ _ _ _).sl]),(1,.p (.v (.bool (stoB s))) (nlv _))] (by kernel_rfl) Tryz.func33 rfl (by simp [PuL,Pu,tbT,stT,tbC,rwC,vlC,dfC,pu_vl,pu_dc,pu_rw,pu_tb,pu_cl]) (by simp only [untagL,untag,tbT,stT,tbC,rwC,vlC,dfC,clC,untag_vl,untag_dc,untag_rw,untag_tb,untag_cl]; rfl) rfl rfl ?_
 intro B w0
 have hpl : stoB s = true→(prL s).length ≤ 100000:=fun h=>by have:=prS_len s; simpa [prS,h] using this
 cases hR : stoB s
 ·conv=>whnf
  refine .ct ?_
  conv=>whnf
  refine CallG.mk (pairs_F _ _ _ _ _ hs hn hR) rfl ?_
  conv=>whnf
  refine XT.loop tabX_ok (Y:=Nat) [4,7,20,21,22,23,24,25,26,27,28,29,30,31,32] (fun k=>[(20,.p (.v (.int .i64 (k))) (nlv _))]) (fun k=>[]) (fun k=>k ≤ 0) (fun k=>0 - k) 0 (Nat.le_refl _) ?_ ?_
  ·exact qwe0
  ·rintro k hk
   exact qwe4
 ·have hpl2:=hpl hR
  conv=>whnf
  refine .ct ?_
  conv=>whnf
  refine CallG.mk ((pairs_T _ _ _ _ _ hs hn hR (PRH.of hR)).shared (fr_cl _)) rfl ?_
  conv=>whnf
  refine .ct ?_
  conv=>whnf
  refine CallG.mk ((pairs12 _ _ _ _ _ hs hn (PRH.of hR)).shared (fr_cl _)) rfl ?_
  conv=>whnf
  refine bF zqS ?_
  conv=>whnf
  refine XT.loop tabX_ok (Y:=Nat) [4,7,20,21,22,23,24,25,26,27,28,29,30,31,32] (fun k=>[(20,.p (.v (.int .i64 (k))) (nlv _))]) (fun k=>[]) (fun k=>k ≤ (prL s).length) (fun k=>(prL s).length - k) 0 (Nat.zero_le _) ?_ ?_
  ·exact qwe0
  ·rintro k hk
   conv=>whnf
   refine bS (fun hc1=>?_) (fun hc1=>?_)
   ·try simp only [bls] at hc1
    conv=>whnf
    refine RegG.par 9 (by kernel_rfl) ?_
    conv=>whnf
    refine IdxG.map (f:=clC) (l:=prL s) k rfl (by first | omega | (simp only [List.length_map] at *; omega)) ?_; intro x hx hkx
    conv=>whnf
    refine ⟨rfl,?_⟩
    conv=>whnf
    refine IdxG.map (f:=clC) (l:=prL s) k rfl (by first | omega | (simp only [List.length_map] at *; omega)) ?_; intro x2 hx2 hkx2; obtain rfl : x = x2:=Option.some.inj (hx.symm.trans hx2); clear hx2
    conv=>whnf
    refine ⟨rfl,?_⟩
    conv=>whnf
    refine BinG.mk rfl rfl (neCl_run _ _ _ _ _ _) ?_
    conv=>whnf
    refine bF (by rw [clE_self]; rfl) ?_
    conv=>whnf
    refine ⟨(k + 1),by omega,by omega,?_⟩
    exact qwe0
   ·try simp only [bls] at hc1
    exact qwe4
end Go.Proofs.YtpgfhkbnngjegaaGreatDoor
