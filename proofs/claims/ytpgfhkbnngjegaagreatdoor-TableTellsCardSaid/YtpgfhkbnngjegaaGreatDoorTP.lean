/- Tables' pairs: their keys rise, and unlike tables have unlike pairs. Plain law. No condition. -/
import Derived.Test.YtpgfhkbnngjegaaGreatDoorWW
import Derived.Test.YtpgfhkbnngjegaaGreatDoorWS
import Derived.Test.YtpgfhkbnngjegaaGreatDoorTD
namespace Go.Proofs.YtpgfhkbnngjegaaGreatDoor
open Go.RowKit
section
variable {P : Program} {B : Nat} {w0 : World} {n : Nat} {c : Code} {e : Env} {h : List XLB} {gs : Frames} {K : XQ}
theorem XT.nilc (i j : Nat) (ty : TypeId) (sz : Nat) {t : TypeId} {cs : List XV} {hp : Nl .nil_} (hi : hget h i = .cells t cs) (hj : cs[j]? = some (.p .nil_ hp))
  (hx : lenK h fun q=>setK cs j (.row q) fun cs'=>setK h i (.cells t cs') fun h'=>XT P B w0 n c e (h' ++ [.row ty sz [] .nil]) gs K) : XT P B w0 n c e h gs K:=⟨fun gh Q hq=>by
 have hx:=lenK_ok (k:=fun q=>setK cs j (.row q) fun cs'=>setK h i (.cells t cs') fun h'=>XT P B w0 n c e (h' ++ [.row ty sz [] .nil]) gs K) hx
 have hx:=setK_ok (k:=fun h'=>XT P B w0 n c e (h' ++ [.row ty sz [] .nil]) gs K) (setK_ok (k:=fun cs'=>setK h i (.cells t cs') fun h'=>XT P B w0 n c e (h' ++ [.row ty sz [] .nil]) gs K) hx)
 refine TW.le (hx.ok gh Q hq) ?_
 have hd : hf (h.map XLB.den) i = .cells t (XV.denL cs):=by rw [← hget_den,hi]; rfl
 have hil : i < h.length:=by
  have:=hf_lt hd (by simp)
  simpa using this
 have:=SLe.nilrow_in (B:=B) (w0:=w0) (gh:=gh) (σ:=xst n e h gs) (i:=i) (j:=j) (t:=t) (cs:=XV.denL cs) ty sz hd (by rw [denL_map,List.getElem?_map,hj]; rfl)
 have e1 : (h.map XLB.den ++ [LB.row ty sz []]).set i (.cells t ((XV.denL cs).set j (.row h.length))) = (h.set i (.cells t (cs.set j (.row h.length))) ++ [XLB.row ty sz [] .nil]).map XLB.den:=by
  rw [List.set_append_left _ _ (by simpa using hil),List.map_append,List.map_set]
  simp only [XLB.den,denL_map,List.map_set,List.map_cons,List.map_nil,XV.den]
 simp only [xst,List.length_map] at this ⊢
 rw [e1] at this
 exact this⟩
end
end Go.Proofs.YtpgfhkbnngjegaaGreatDoor

namespace Go.Proofs.YtpgfhkbnngjegaaGreatDoor
open Go.RowKit
set_option linter.unusedVariables false
set_option linter.unusedSimpArgs false
theorem qwt0 {p : Prop} (h : p:=by
 refine ⟨?_,?_,?_⟩
 ·refine leEnv_app (by kernel_rfl) (by kernel_rfl) ?_
  repeat ((conv=>whnf); first | exact True.intro | refine ⟨.rfl,?_⟩ | refine ⟨.any,?_⟩ | refine ⟨.nil,?_⟩ | refine ⟨.int (by first | rfl | omega | (simp only [wrs]; omega)),?_⟩)
 ·repeat (first | exact LeVs.nil | ((conv=>whnf); first | exact True.intro | exact .none | exact .ext | exact .row rfl | exact .rowF rfl rfl rfl | refine .cells ?_ | refine ⟨_,_,rfl,.rfl,?_⟩ | refine ⟨_,_,rfl,.any,?_⟩ | refine ⟨_,_,rfl,.nil,?_⟩ | refine ⟨_,_,rfl,.int (by first | rfl | omega | (simp only [wrs]; omega)),?_⟩ | refine ⟨?_,?_⟩))
  done
 ·exact LeFr.same (by kernel_rfl)) : p:=h
set_option maxRecDepth 20000
theorem sw_more {l : List Tbl} {k : Nat} {v : Tbl} (h : l[k]? = some v) (hk : k < 5) : (((l.take k).take 5).map tbW).map (tbC true true true) ++ [[.v (.string (cutS v.n 30)),.sl true ((tbW v).c.map dfC),.sl true ((tbW v).r.map (rwC true))]] = (((l.take (k + 1)).take 5).map tbW).map (tbC true true true):=tw_more h hk
theorem sw_end {l : List Tbl} {k : Nat} (h : k ≤ l.length) (h2 : (l.length : Int) ≤ k) : (((l.take k).take 5).map tbW).map (tbC true true true) = (stW l).map (tbC true true true):=by rw [take_end h h2]; rfl
set_option maxRecDepth 20000 in
theorem short_T (b b1 b2 b3 : Bool) (l : List Tbl) (hn : l.length ≤ 9223372036854775807) (hs : ∀ t ∈ l,t.c.length ≤ 9223372036854775807∧t.r.length ≤ 9223372036854775807∧∀ r ∈ t.r,r.length ≤ 9223372036854775807) : XMeets Tryz.prog 26 [stT b b1 b2 b3 l] (.ag [.p (.sl true ((stW l).map (tbC true true true))) (nl_tb _ _ _ _).sl]):=by
 refine XMeets.of_XM [(2,.p (.v (.bool true)) (nlv _))] tabX_ok (avs:=[.ag [.p (.sl false (l.map (tbC false false false))) (nl_tb _ _ _ _).sl]]) [(0,.ag [.p (.sl false (l.map (tbC false false false))) (nl_tb _ _ _ _).sl])] (by kernel_rfl) Tryz.func26 rfl (by simp [PuL,Pu,tbT,stT,tbC,rwC,vlC,dfC,pu_vl,pu_dc,pu_rw,pu_tb]) (by simp only [untagL,untag,tbT,stT,tbC,rwC,vlC,dfC,untag_vl,untag_dc,untag_rw,untag_tb]; rfl) rfl rfl ?_
 intro B w0
 conv=>whnf
 refine XT.nilc 2 0 25 3 rfl rfl ?_
 conv=>whnf
 refine XT.pass tabX_ok ?_
 conv=>whnf
 refine XT.pass tabX_ok ?_
 conv=>whnf
 refine XT.loop tabX_ok (Y:=Nat) [4,5,9,10,11,12,13,14,15,16,17,18,19,20,21,22,23] (fun k=>[(9,.p (.v (.int .i64 (k))) (nlv _))]) (fun k=>[(3,.row 25 3 ((((l.take k).take 5).map tbW).map (tbC true true true)) (nl_tb _ _ _ _))]) (fun k=>k ≤ l.length) (fun k=>l.length - k) 0 (Nat.zero_le _) ?_ ?_
 ·exact qwt0
 ·rintro k hk
  conv=>whnf
  refine bS (fun hc1=>?_) (fun hc1=>?_)
  ·try simp only [bls] at hc1
   conv=>whnf
   refine IdxG.map (l:=l) k rfl (by first | omega | (simp only [List.length_map] at *; omega)) ?_; intro t1 ht1 hnt1; have hin1:=hs _ (List.mem_of_getElem? ht1)
   conv=>whnf
   refine ⟨rfl,?_⟩
   conv=>whnf
   refine bS (fun hc2=>?_) (fun hc2=>?_)
   ·try simp only [bls] at hc2
    conv=>whnf
    refine RegG.wr 5 1 21 3 (by kernel_rfl) rfl rfl ?_
    conv=>whnf
    refine CallG.mk (one_T _ _ _ _ hin1.1 hin1.2.1 hin1.2.2) rfl ?_
    conv=>whnf
    refine ⟨_,RowOp.app tabX_ok rfl rfl rfl rfl rfl rfl rfl (els':=(((l.take (k + 1)).take 5).map tbW).map (tbC true true true)) (sw_more ht1 (by omega)) (nl_tb _ _ _ _) (by (conv=>whnf); exact ⟨fun c hc=>(by simp at hc; subst hc; exact ⟨rfl,rfl⟩),by have:=tk_len l k 5; simp only [List.length_append,List.length_map,List.length_cons,List.length_nil]; omega⟩),?_⟩
    conv=>whnf
    refine ⟨(k + 1),by omega,by omega,?_⟩
    exact qwt0
   ·try simp only [bls] at hc2
    conv=>whnf
    refine ⟨(k + 1),by omega,by omega,?_⟩
    refine ⟨?_,?_,?_⟩
    ·refine leEnv_app (by kernel_rfl) (by kernel_rfl) ?_
     repeat ((conv=>whnf); first | exact True.intro | refine ⟨.rfl,?_⟩ | refine ⟨.any,?_⟩ | refine ⟨.nil,?_⟩ | refine ⟨.int (by first | rfl | omega | (simp only [wrs]; omega)),?_⟩)
    ·repeat (first | exact LeVs.nil | ((conv=>whnf); first | exact True.intro | exact .none | exact .ext | exact .row rfl | exact .rowF rfl rfl rfl | exact .row (tw_same (by omega)) | refine .cells ?_ | refine ⟨_,_,rfl,.rfl,?_⟩ | refine ⟨_,_,rfl,.any,?_⟩ | refine ⟨_,_,rfl,.nil,?_⟩ | refine ⟨_,_,rfl,.int (by first | rfl | omega | (simp only [wrs]; omega)),?_⟩ | refine ⟨?_,?_⟩))
     done
    ·exact LeFr.same (by kernel_rfl)
  ·try simp only [bls] at hc1
   conv=>whnf
   refine FinG.mk none ?_ zqR
   simp only [outs,zqL,fr_by1,fr_rw,fr_tb,fr_dc,fr_vl,fr_cl,tblZ,List.map_nil,wk_len,fr_vl,fr_rw,fr_dc,fr_tb]
   exact ⟨⟨_,_,congrArg _ (sw_end hk (by omega))⟩,by simp⟩
end Go.Proofs.YtpgfhkbnngjegaaGreatDoor

namespace Go.Proofs.YtpgfhkbnngjegaaGreatDoor
open Go.RowKit
set_option linter.unusedVariables false
set_option linter.unusedSimpArgs false
theorem qwq0 {p : Prop} (h : p:=by
 refine ⟨?_,?_,?_⟩
 ·refine leEnv_app (by kernel_rfl) (by kernel_rfl) ?_
  repeat ((conv=>whnf); first | exact True.intro | refine ⟨.rfl,?_⟩ | refine ⟨.any,?_⟩ | refine ⟨.nil,?_⟩ | refine ⟨.int (by first | rfl | omega | (simp only [wrs]; omega)),?_⟩)
 ·repeat (first | exact LeVs.nil | ((conv=>whnf); first | exact True.intro | exact .none | exact .ext | exact .row rfl | exact .rowF rfl rfl rfl | refine .cells ?_ | refine ⟨_,_,rfl,.rfl,?_⟩ | refine ⟨_,_,rfl,.any,?_⟩ | refine ⟨_,_,rfl,.nil,?_⟩ | refine ⟨_,_,rfl,.int (by first | rfl | omega | (simp only [wrs]; omega)),?_⟩ | refine ⟨?_,?_⟩))
  done
 ·exact LeFr.nil) : p:=h
theorem qwq1 {p : Prop} (h : p:=by
 conv=>whnf
 refine bS (fun hc3=>?_) (fun hc3=>?_)
 ·try simp only [bls] at hc3
  conv=>whnf
  refine FinG.mk none ?_ zqR
  simp only [outs,zqL,fr_by1,fr_rw,fr_tb,fr_dc,fr_vl,fr_cl,tblZ,List.map_nil,wk_len,fr_vl,fr_rw,fr_dc,fr_tb]
  rw [smL_no hx hy (by assumption)]
 ·try simp only [bls] at hc3
  conv=>whnf
  refine ⟨(k + 1),⟨(by first | omega | (simp only [List.length_map] at *; omega)),smA_s ha hx hy (by assumption)⟩,(by first | omega | (simp only [List.length_map] at *; omega)),?_⟩
  exact qwq0) : p:=h
theorem qwq2 {p : Prop} (h : p:=by
 try simp only [bls] at hc2
 conv=>whnf
 refine FinG.mk none ?_ zqR
 simp only [outs,zqL,fr_by1,fr_rw,fr_tb,fr_dc,fr_vl,fr_cl,tblZ,List.map_nil,wk_len,fr_vl,fr_rw,fr_dc,fr_tb]
 rw [smL_yes ha (by first | omega | (simp only [List.length_map] at *; omega)) (by first | omega | (simp only [List.length_map] at *; omega))]) : p:=h
theorem qwq3 {p : Prop} (h : p:=by
 try simp only [bls] at hc1
 conv=>whnf
 refine FinG.mk none ?_ zqR
 simp only [outs,zqL,fr_by1,fr_rw,fr_tb,fr_dc,fr_vl,fr_cl,tblZ,List.map_nil,wk_len,fr_vl,fr_rw,fr_dc,fr_tb]
 rw [smL_len (by first | omega | (simp only [List.length_map] at *; omega))]) : p:=h
theorem qwq4 {p : Prop} (h : p:=by
 conv=>whnf
 refine FinG.mk none ?_ zqR
 simp only [outs,zqL,fr_by1,fr_rw,fr_tb,fr_dc,fr_vl,fr_cl,tblZ,List.map_nil,wk_len,fr_vl,fr_rw,fr_dc,fr_tb]
 have hb : bsEq x.n y.n = true:=by simp only [bsEq_t]; assumption
 unfold tbE
 rw [hb,hc2]
 rfl) : p:=h
set_option maxRecDepth 20000
def vlE (x y : Val) : Bool:=decide (x.k = y.k) && decide (x.n = y.n) && bsEq x.t y.t
def dfE (x y : Dfn) : Bool:=bsEq x.n y.n && decide (x.t = y.t) && decide (x.k = y.k) && decide (x.nn = y.nn)
def clE (x y : Cel) : Bool:=bsEq x.k y.k && bsEq x.v y.v
def smL {α : Type} (q : α→α→Bool) : List α→List α→Bool
  | [],[]=>true
  | x :: l,y :: m=>q x y && smL q l m
  | _,_=>false
def tbE (x y : Tbl) : Bool:=bsEq x.n y.n && smL dfE x.c y.c && smL (smL vlE) x.r y.r
def smA {α : Type} (q : α→α→Bool) (l m : List α) (k : Nat) : Prop:=∀ j x y,j < k→l[j]? = some x→m[j]? = some y→q x y = true
theorem smA_0 {α : Type} (q : α→α→Bool) (l m : List α) : smA q l m 0:=fun j x y hj=>by omega
theorem smA_s {α : Type} {q : α→α→Bool} {l m : List α} {k : Nat} {x y : α} (h : smA q l m k) (hx : l[k]? = some x) (hy : m[k]? = some y) (hq : q x y = true) : smA q l m (k + 1):=fun j a b hj ha hb=>by
  rcases Nat.lt_or_ge j k with h1 | h1
  · exact h j a b h1 ha hb
  · obtain rfl : j = k:=by omega
    rw [hx] at ha; rw [hy] at hb; cases ha; cases hb; exact hq
theorem smL_size {α : Type} {q : α→α→Bool} : ∀ {l m : List α},smL q l m = true→l.length = m.length
  | [],[],_=>rfl
  | x :: l,y :: m,h=>by simp only [smL,Bool.and_eq_true] at h; simp [smL_size h.2]
  | [],y :: m,h=>by simp [smL] at h
  | x :: l,[],h=>by simp [smL] at h
theorem smL_yes {α : Type} {q : α→α→Bool} : ∀ {l m : List α} {k : Nat},smA q l m k→l.length = m.length→l.length ≤ k→smL q l m = true
  | [],[],k,_,_,_=>rfl
  | a :: l,b :: m,k,h,hl,hk=>by
    simp only [List.length_cons] at hl hk
    have h2 : smA q l m (k - 1):=fun j x y hj hx hy=>h (j + 1) x y (by omega) hx hy
    simp [smL,h 0 a b (by omega) rfl rfl,smL_yes h2 (by omega) (by omega)]
  | [],b :: m,k,_,hl,_=>by simp at hl
  | a :: l,[],k,_,hl,_=>by simp at hl
theorem smL_no {α : Type} {q : α→α→Bool} : ∀ {l m : List α} {k : Nat} {x y : α},l[k]? = some x→m[k]? = some y→q x y = false→smL q l m = false
  | [],_,k,x,y,hx,_,_=>by simp at hx
  | _ :: _,[],k,x,y,_,hy,_=>by simp at hy
  | a :: l,b :: m,0,x,y,hx,hy,h=>by
    simp at hx hy; subst hx; subst hy; simp [smL,h]
  | a :: l,b :: m,k + 1,x,y,hx,hy,h=>by
    simp [smL,smL_no (l:=l) (m:=m) (k:=k) (by simpa using hx) (by simpa using hy) h]
theorem smL_len {α : Type} {q : α→α→Bool} {l m : List α} (h : ¬ l.length = m.length) : smL q l m = false:=by
  cases hh : smL q l m with
  | false=>rfl
  | true=>exact absurd (smL_size hh) h
theorem neVl_run (x y : Operand) (a1 a2 : Int) (b1 b2 : Int) (c1 c2 : ByteArray) (w : World) : (do eqGuard .neq 42 x y (.agg #[.int .i64 a1,.int .i64 b1,.string c1]) (.agg #[.int .i64 a2,.int .i64 b2,.string c2]); binOp .neq 42 (.agg #[.int .i64 a1,.int .i64 b1,.string c1]) (.agg #[.int .i64 a2,.int .i64 b2,.string c2]) : Sem Value).run Tryz.prog w = .ok (.bool (!(vlE ⟨a1,b1,c1⟩ ⟨a2,b2,c2⟩))) w:=by
  go_simp
  by_cases h0 : a1 = a2 <;> by_cases h1 : b1 = b2 <;> by_cases h2 : bs c1 = bs c2 <;> simp [h0,h1,h2,vlE,bsEq,bs_eq]
theorem neDf_run (x y : Operand) (a1 a2 : ByteArray) (b1 b2 : Int) (c1 c2 : Bool) (d1 d2 : Bool) (w : World) : (do eqGuard .neq 94 x y (.agg #[.string a1,.int .i64 b1,.bool c1,.bool d1]) (.agg #[.string a2,.int .i64 b2,.bool c2,.bool d2]); binOp .neq 94 (.agg #[.string a1,.int .i64 b1,.bool c1,.bool d1]) (.agg #[.string a2,.int .i64 b2,.bool c2,.bool d2]) : Sem Value).run Tryz.prog w = .ok (.bool (!(dfE ⟨a1,b1,c1,d1⟩ ⟨a2,b2,c2,d2⟩))) w:=by
  go_simp
  by_cases h0 : bs a1 = bs a2 <;> by_cases h1 : b1 = b2 <;> by_cases h2 : c1 = c2 <;> by_cases h3 : d1 = d2 <;> simp [h0,h1,h2,h3,dfE,bsEq,bs_eq]
theorem neCl_run (x y : Operand) (a1 a2 : ByteArray) (b1 b2 : ByteArray) (w : World) : (do eqGuard .neq 62 x y (.agg #[.string a1,.string b1]) (.agg #[.string a2,.string b2]); binOp .neq 62 (.agg #[.string a1,.string b1]) (.agg #[.string a2,.string b2]) : Sem Value).run Tryz.prog w = .ok (.bool (!(clE ⟨a1,b1⟩ ⟨a2,b2⟩))) w:=by
  go_simp
  by_cases h0 : bs a1 = bs a2 <;> by_cases h1 : bs b1 = bs b2 <;> simp [h0,h1,clE,bsEq,bs_eq]
set_option maxRecDepth 20000 in
theorem eqV_X (b1 b2 : Bool) (l m : List Val) (hl : l.length ≤ 100000) : XMeets Tryz.prog 47 [.sl b1 (l.map vlC),.sl b2 (m.map vlC)] (.p (.v (.bool (smL vlE l m))) (nlv _)):=by
 refine XMeets.of_X tabX_ok (avs:=[.p (.sl false (l.map vlC)) (nl_vl _).sl,.p (.sl false (m.map vlC)) (nl_vl _).sl]) [(0,.p (.sl false (l.map vlC)) (nl_vl _).sl),(1,.p (.sl false (m.map vlC)) (nl_vl _).sl)] (by kernel_rfl) Tryz.func47 rfl (by simp [PuL,Pu,tbT,stT,tbC,rwC,vlC,dfC,pu_vl,pu_dc,pu_rw,pu_tb,pu_cl]) (by simp only [untagL,untag,tbT,stT,tbC,rwC,vlC,dfC,clC,untag_vl,untag_dc,untag_rw,untag_tb,untag_cl]; rfl) rfl rfl ?_
 intro B w0
 conv=>whnf
 refine bS (fun hc1=>?_) (fun hc1=>?_)
 ·exact qwq3
 ·try simp only [bls] at hc1
  conv=>whnf
  refine XT.loop tabX_ok (Y:=Nat) [4,5,13,14,15,16,17,18,19,20,21,22,23,24,25] (fun k=>[(13,.p (.v (.int .i64 (k))) (nlv _))]) (fun k=>[]) (fun k=>k ≤ l.length∧smA vlE l m k) (fun k=>l.length - k) 0 ⟨Nat.zero_le _,smA_0 _ _ _⟩ ?_ ?_
  ·exact qwq0
  ·rintro k ⟨hk,ha⟩
   conv=>whnf
   refine bS (fun hc2=>?_) (fun hc2=>?_)
   ·try simp only [bls] at hc2
    conv=>whnf
    refine RegG.par 9 (by kernel_rfl) ?_
    conv=>whnf
    refine IdxG.map (f:=vlC) (l:=l) k rfl (by first | omega | (simp only [List.length_map] at *; omega)) ?_; intro x hx hkx
    conv=>whnf
    refine ⟨rfl,?_⟩
    conv=>whnf
    refine IdxG.map (f:=vlC) (l:=m) k rfl (by first | omega | (simp only [List.length_map] at *; omega)) ?_; intro y hy hky
    conv=>whnf
    refine ⟨rfl,?_⟩
    conv=>whnf
    refine BinG.mk rfl rfl (neVal_run _ _ _ _ _ _ _ _) ?_
    exact qwq1
   ·exact qwq2
set_option maxRecDepth 20000 in
theorem eqD_X (b1 b2 : Bool) (l m : List Dfn) (hl : l.length ≤ 100000) : XMeets Tryz.prog 68 [.sl b1 (l.map dfC),.sl b2 (m.map dfC)] (.p (.v (.bool (smL dfE l m))) (nlv _)):=by
 refine XMeets.of_X tabX_ok (avs:=[.p (.sl false (l.map dfC)) (nl_dc _).sl,.p (.sl false (m.map dfC)) (nl_dc _).sl]) [(0,.p (.sl false (l.map dfC)) (nl_dc _).sl),(1,.p (.sl false (m.map dfC)) (nl_dc _).sl)] (by kernel_rfl) Tryz.func68 rfl (by simp [PuL,Pu,tbT,stT,tbC,rwC,vlC,dfC,pu_vl,pu_dc,pu_rw,pu_tb,pu_cl]) (by simp only [untagL,untag,tbT,stT,tbC,rwC,vlC,dfC,clC,untag_vl,untag_dc,untag_rw,untag_tb,untag_cl]; rfl) rfl rfl ?_
 intro B w0
 conv=>whnf
 refine bS (fun hc1=>?_) (fun hc1=>?_)
 ·exact qwq3
 ·try simp only [bls] at hc1
  conv=>whnf
  refine XT.loop tabX_ok (Y:=Nat) [4,5,13,14,15,16,17,18,19,20,21,22,23,24,25] (fun k=>[(13,.p (.v (.int .i64 (k))) (nlv _))]) (fun k=>[]) (fun k=>k ≤ l.length∧smA dfE l m k) (fun k=>l.length - k) 0 ⟨Nat.zero_le _,smA_0 _ _ _⟩ ?_ ?_
  ·exact qwq0
  ·rintro k ⟨hk,ha⟩
   conv=>whnf
   refine bS (fun hc2=>?_) (fun hc2=>?_)
   ·try simp only [bls] at hc2
    conv=>whnf
    refine RegG.par 9 (by kernel_rfl) ?_
    conv=>whnf
    refine IdxG.map (f:=dfC) (l:=l) k rfl (by first | omega | (simp only [List.length_map] at *; omega)) ?_; intro x hx hkx
    conv=>whnf
    refine ⟨rfl,?_⟩
    conv=>whnf
    refine IdxG.map (f:=dfC) (l:=m) k rfl (by first | omega | (simp only [List.length_map] at *; omega)) ?_; intro y hy hky
    conv=>whnf
    refine ⟨rfl,?_⟩
    conv=>whnf
    refine BinG.mk rfl rfl (neDf_run _ _ _ _ _ _ _ _ _ _) ?_
    exact qwq1
   ·exact qwq2
set_option maxRecDepth 20000 in
theorem eqR_X (b1 b2 b3 b4 : Bool) (l m : List (List Val)) (hl : l.length ≤ 100000) (hr : ∀ r ∈ l,r.length ≤ 100000) : XMeets Tryz.prog 69 [.sl b1 (l.map (rwC b2)),.sl b3 (m.map (rwC b4)),.fn (.func 47) []] (.p (.v (.bool (smL (smL vlE) l m))) (nlv _)):=by
 refine XMeets.of_X tabX_ok (avs:=[.p (.sl false (l.map (rwC false))) (nl_rw _ _).sl,.p (.sl false (m.map (rwC false))) (nl_rw _ _).sl,.fu (.func 47) []]) [(0,.p (.sl false (l.map (rwC false))) (nl_rw _ _).sl),(1,.p (.sl false (m.map (rwC false))) (nl_rw _ _).sl),(2,.fu (.func 47) [])] (by kernel_rfl) Tryz.func69 rfl (by simp [PuL,Pu,tbT,stT,tbC,rwC,vlC,dfC,pu_vl,pu_dc,pu_rw,pu_tb,pu_cl]) (by simp only [untagL,untag,tbT,stT,tbC,rwC,vlC,dfC,clC,untag_vl,untag_dc,untag_rw,untag_tb,untag_cl]; rfl) rfl rfl ?_
 intro B w0
 conv=>whnf
 refine bS (fun hc1=>?_) (fun hc1=>?_)
 ·exact qwq3
 ·try simp only [bls] at hc1
  conv=>whnf
  refine XT.loop tabX_ok (Y:=Nat) [6,7,8,9,17,18,19,20,21,22,23,24,25,26,27,28,29,30,31] (fun k=>[(17,.p (.v (.int .i64 (k))) (nlv _))]) (fun k=>[]) (fun k=>k ≤ l.length∧smA (smL vlE) l m k) (fun k=>l.length - k) 0 ⟨Nat.zero_le _,smA_0 _ _ _⟩ ?_ ?_
  ·exact qwq0
  ·rintro k ⟨hk,ha⟩
   conv=>whnf
   refine bS (fun hc2=>?_) (fun hc2=>?_)
   ·try simp only [bls] at hc2
    conv=>whnf
    refine IdxG.map (f:=rwC false) (l:=l) k rfl (by first | omega | (simp only [List.length_map] at *; omega)) ?_; intro x hx hkx
    conv=>whnf
    refine ⟨rfl,?_⟩
    conv=>whnf
    refine IdxG.map (f:=rwC false) (l:=m) k rfl (by first | omega | (simp only [List.length_map] at *; omega)) ?_; intro y hy hky
    conv=>whnf
    refine ⟨rfl,?_⟩
    conv=>whnf
    refine .ct ?_
    conv=>whnf
    refine CallG.mk (eqV_X _ _ x y (hr _ (List.mem_of_getElem? hx))) rfl ?_
    exact qwq1
   ·exact qwq2
set_option maxRecDepth 20000 in
theorem sameT_X (b1 b2 b3 c1 c2 c3 : Bool) (x y : Tbl) (hc : x.c.length ≤ 100000) (hl : x.r.length ≤ 100000) (hr : ∀ r ∈ x.r,r.length ≤ 100000) : XMeets Tryz.prog 67 [tbT b1 b2 b3 x,tbT c1 c2 c3 y] (.p (.v (.bool (tbE x y))) (nlv _)):=by
 refine XMeets.of_X tabX_ok (avs:=[.ag [.p (.v (.string (x.n))) (nlv _),.p (.sl false (x.c.map dfC)) (nl_dc _).sl,.p (.sl false (x.r.map (rwC false))) (nl_rw _ _).sl],.ag [.p (.v (.string (y.n))) (nlv _),.p (.sl false (y.c.map dfC)) (nl_dc _).sl,.p (.sl false (y.r.map (rwC false))) (nl_rw _ _).sl]]) [(0,.ag [.p (.v (.string (x.n))) (nlv _),.p (.sl false (x.c.map dfC)) (nl_dc _).sl,.p (.sl false (x.r.map (rwC false))) (nl_rw _ _).sl]),(1,.ag [.p (.v (.string (y.n))) (nlv _),.p (.sl false (y.c.map dfC)) (nl_dc _).sl,.p (.sl false (y.r.map (rwC false))) (nl_rw _ _).sl])] (by kernel_rfl) Tryz.func67 rfl (by simp [PuL,Pu,tbT,stT,tbC,rwC,vlC,dfC,pu_vl,pu_dc,pu_rw,pu_tb,pu_cl]) (by simp only [untagL,untag,tbT,stT,tbC,rwC,vlC,dfC,clC,untag_vl,untag_dc,untag_rw,untag_tb,untag_cl]; rfl) rfl rfl ?_
 intro B w0
 conv=>whnf
 refine bS (fun hc1=>?_) (fun hc1=>?_)
 ·try simp only [bls] at hc1
  conv=>whnf
  refine bT (by simp only [bsEq_t]; assumption) ?_
  conv=>whnf
  refine bT (by simp only [bsEq_t]; assumption) ?_
  conv=>whnf
  refine bT (by simp only [bsEq_t]; assumption) ?_
  conv=>whnf
  refine bT (by simp only [bsEq_t]; assumption) ?_
  conv=>whnf
  refine .ct ?_
  conv=>whnf
  refine CallG.mk (eqD_X _ _ _ _ (by first | assumption | omega)) rfl ?_
  conv=>whnf
  refine bT (by simp only [bsEq_t]; assumption) ?_
  conv=>whnf
  refine bS (fun hc2=>?_) (fun hc2=>?_)
  ·try simp only [bls] at hc2
   conv=>whnf
   refine bT zqS ?_
   conv=>whnf
   refine bT zqS ?_
   conv=>whnf
   refine bT zqS ?_
   conv=>whnf
   refine bT zqS ?_
   conv=>whnf
   refine .ct ?_
   conv=>whnf
   refine CallG.mk (eqR_X _ _ _ _ _ _ (by first | assumption | omega) (by assumption)) rfl ?_
   conv=>whnf
   refine bT zqS ?_
   exact qwq4
  ·try simp only [bls] at hc2
   conv=>whnf
   refine bF zqS ?_
   conv=>whnf
   refine bF zqS ?_
   conv=>whnf
   refine bF zqS ?_
   conv=>whnf
   refine bF zqS ?_
   conv=>whnf
   refine bF zqS ?_
   exact qwq4
 ·try simp only [bls] at hc1
  conv=>whnf
  refine bF (by simp only [bsEq_f]; assumption) ?_
  conv=>whnf
  refine bF (by simp only [bsEq_f]; assumption) ?_
  conv=>whnf
  refine bF (by simp only [bsEq_f]; assumption) ?_
  conv=>whnf
  refine bF (by simp only [bsEq_f]; assumption) ?_
  conv=>whnf
  refine bF (by simp only [bsEq_f]; assumption) ?_
  conv=>whnf
  refine FinG.mk none ?_ zqR
  simp only [outs,zqL,fr_by1,fr_rw,fr_tb,fr_dc,fr_vl,fr_cl,tblZ,List.map_nil,wk_len,fr_vl,fr_rw,fr_dc,fr_tb]
  have hb : bsEq x.n y.n = false:=by simp only [bsEq_f]; assumption
  unfold tbE
  rw [hb]
  rfl
set_option maxRecDepth 20000 in
theorem eqT_X (b1 b2 b3 b4 c1 c2 c3 c4 : Bool) (l m : List Tbl) (hl : l.length ≤ 100000) (hs : ∀ t ∈ l,t.In) : XMeets Tryz.prog 66 [.sl b1 (l.map (tbC b2 b3 b4)),.sl c1 (m.map (tbC c2 c3 c4)),.fn (.func 67) []] (.p (.v (.bool (smL tbE l m))) (nlv _)):=by
 refine XMeets.of_X tabX_ok (avs:=[.p (.sl false (l.map (tbC false false false))) (nl_tb _ _ _ _).sl,.p (.sl false (m.map (tbC false false false))) (nl_tb _ _ _ _).sl,.fu (.func 67) []]) [(0,.p (.sl false (l.map (tbC false false false))) (nl_tb _ _ _ _).sl),(1,.p (.sl false (m.map (tbC false false false))) (nl_tb _ _ _ _).sl),(2,.fu (.func 67) [])] (by kernel_rfl) Tryz.func66 rfl (by simp [PuL,Pu,tbT,stT,tbC,rwC,vlC,dfC,pu_vl,pu_dc,pu_rw,pu_tb,pu_cl]) (by simp only [untagL,untag,tbT,stT,tbC,rwC,vlC,dfC,clC,untag_vl,untag_dc,untag_rw,untag_tb,untag_cl]; rfl) rfl rfl ?_
 intro B w0
 conv=>whnf
 refine bS (fun hc1=>?_) (fun hc1=>?_)
 ·exact qwq3
 ·try simp only [bls] at hc1
  conv=>whnf
  refine XT.loop tabX_ok (Y:=Nat) [6,7,8,9,17,18,19,20,21,22,23,24,25,26,27,28,29,30,31] (fun k=>[(17,.p (.v (.int .i64 (k))) (nlv _))]) (fun k=>[]) (fun k=>k ≤ l.length∧smA tbE l m k) (fun k=>l.length - k) 0 ⟨Nat.zero_le _,smA_0 _ _ _⟩ ?_ ?_
  ·exact qwq0
  ·rintro k ⟨hk,ha⟩
   conv=>whnf
   refine bS (fun hc2=>?_) (fun hc2=>?_)
   ·try simp only [bls] at hc2
    conv=>whnf
    refine IdxG.map (f:=tbC false false false) (l:=l) k rfl (by first | omega | (simp only [List.length_map] at *; omega)) ?_; intro x hx hkx; have hin:=hs _ (List.mem_of_getElem? hx)
    conv=>whnf
    refine ⟨rfl,?_⟩
    conv=>whnf
    refine IdxG.map (f:=tbC false false false) (l:=m) k rfl (by first | omega | (simp only [List.length_map] at *; omega)) ?_; intro y hy hky
    conv=>whnf
    refine ⟨rfl,?_⟩
    conv=>whnf
    refine .ct ?_
    conv=>whnf
    refine CallG.mk (sameT_X _ _ _ _ _ _ x y hin.cn hin.rn (fun r hr=>(hin.r r hr).1)) rfl ?_
    exact qwq1
   ·exact qwq2
set_option maxRecDepth 20000 in
theorem same_T (b1 b2 b3 b4 c1 c2 c3 c4 : Bool) (l m : List Tbl) (hl : l.length ≤ 100000) (hs : ∀ t ∈ l,t.In) : XMeets Tryz.prog 29 [stT b1 b2 b3 b4 l,stT c1 c2 c3 c4 m] (.p (.v (.bool (smL tbE l m))) (nlv _)):=by
 refine XMeets.of_X tabX_ok (avs:=[.ag [.p (.sl false (l.map (tbC false false false))) (nl_tb _ _ _ _).sl],.ag [.p (.sl false (m.map (tbC false false false))) (nl_tb _ _ _ _).sl]]) [(0,.ag [.p (.sl false (l.map (tbC false false false))) (nl_tb _ _ _ _).sl]),(1,.ag [.p (.sl false (m.map (tbC false false false))) (nl_tb _ _ _ _).sl])] (by kernel_rfl) Tryz.func29 rfl (by simp [PuL,Pu,tbT,stT,tbC,rwC,vlC,dfC,pu_vl,pu_dc,pu_rw,pu_tb,pu_cl]) (by simp only [untagL,untag,tbT,stT,tbC,rwC,vlC,dfC,clC,untag_vl,untag_dc,untag_rw,untag_tb,untag_cl]; rfl) rfl rfl ?_
 intro B w0
 conv=>whnf
 refine .ct ?_
 conv=>whnf
 refine CallG.mk (eqT_X _ _ _ _ _ _ _ _ _ _ (by first | assumption | omega) (by assumption)) rfl ?_
 conv=>whnf
 refine FinG.mk none ?_ zqR
 simp only [outs,zqL,fr_by1,fr_rw,fr_tb,fr_dc,fr_vl,fr_cl,tblZ,List.map_nil,wk_len,fr_vl,fr_rw,fr_dc,fr_tb]
end Go.Proofs.YtpgfhkbnngjegaaGreatDoor

namespace Go.Proofs.YtpgfhkbnngjegaaGreatDoor
open Go.RowKit
set_option linter.unusedVariables false
set_option linter.unusedSimpArgs false
end Go.Proofs.YtpgfhkbnngjegaaGreatDoor

namespace Go.Proofs.YtpgfhkbnngjegaaGreatDoor
open Go.RowKit
set_option linter.unusedVariables false
set_option linter.unusedSimpArgs false
def prS (s : List Tbl) : List Cel:=if stoB s = true then prL s else []
theorem pw_of_adj {α : Type} {R : α→α→Prop} (tr : ∀ a b c : α,R a b→R b c→R a c) : ∀ {l : List α},(∀ (j : Nat) (a b : α),l[j]? = some a→l[j + 1]? = some b→R a b)→l.Pairwise R
 | [],_=>.nil
 | [a],_=>List.pairwise_singleton _ _
 | a :: b :: l,h=>by
  have ih : (b :: l).Pairwise R:=pw_of_adj tr fun j x y hx hy=>h (j + 1) x y (by simpa using hx) (by simpa using hy)
  have hab:=h 0 a b rfl rfl
  refine List.pairwise_cons.2 ⟨fun x hx=>?_,ih⟩
  rcases List.mem_cons.1 hx with rfl | hx
  ·exact hab
  ·exact tr _ _ _ hab ((List.pairwise_cons.1 ih).1 x hx)
structure TabQ (t : Tbl) : Prop where
 F : TabF t
 n : nameB t.n = true
 g : goodB t.c = true
 rise : Rise (keyI t.c) t.r
 I : t.In
theorem tab_G {t : Tbl} (h : tabB t = true) (hI : t.In) : TabQ t:=by
 have hF:=tab_F h
 unfold tabB at h
 simp only [Bool.and_eq_true,decide_eq_true_eq] at h
 obtain ⟨⟨h1,h2⟩,h3⟩:=h
 unfold headB at h1
 simp only [Bool.and_eq_true,decide_eq_true_eq] at h1
 obtain ⟨⟨⟨⟨g1,g2⟩,g3⟩,g4⟩,g5⟩:=h1
 exact ⟨hF,g1,g5,(rowsB_iff2.1 h3).2,hI⟩
def nmR (t u : Tbl) : Prop:=Op.bytesLess (bs t.n) (bs u.n) = true
structure StoQ (s : List Tbl) : Prop where
 t : ∀ t ∈ s,TabQ t
 pw : s.Pairwise nmR
theorem sto_G {s : List Tbl} (h : stoB s = true) (hI : ∀ t ∈ s,t.In) : StoQ s:=by
 have hF:=sto_F h
 refine ⟨fun t ht=>tab_G (hF.2 t ht) (hI t ht),?_⟩
 have:=((stF_iff (Nat.le_refl _)).1 h).2.2
 exact pw_of_adj (R:=nmR) (fun _ _ _ h1 h2=>bl_trans _ _ _ h1 h2) fun j a b ha hb=>this j a b (List.getElem?_eq_some_iff.1 hb).1 ha hb
def KR (x y : Cel) : Prop:=Op.bytesLess (bs x.k) (bs y.k) = true
theorem prS_len (s : List Tbl) : (prS s).length ≤ 100000:=by
 cases h : stoB s with
 | false=>simp [prS,h]
 | true=>
  have e : prS s = prL s:=by simp [prS,h]
  rw [e]
  have hF:=PRH.of h
  have h1:=pr2_len hF.F s.length
  have h2:=hF.n
  unfold prL
  omega
theorem smL_iff {α : Type} {q : α→α→Bool} (hq : ∀ x y,q x y = true↔x = y) : ∀ {l m : List α},smL q l m = true↔l = m
 | [],[]=>by simp [smL]
 | [],y :: m=>by simp [smL]
 | x :: l,[]=>by simp [smL]
 | x :: l,y :: m=>by
  simp only [smL,Bool.and_eq_true,hq,smL_iff hq (l:=l) (m:=m),List.cons.injEq]
theorem bsEq_e {a b : ByteArray} : bsEq a b = true↔a = b:=by
 rw [bsEq_t]
 exact ⟨bs_ext,fun h=>by rw [h]⟩
theorem vlE_iff (x y : Val) : vlE x y = true↔x = y:=by
 cases x; cases y
 simp only [vlE,Bool.and_eq_true,decide_eq_true_eq,bsEq_e,Val.mk.injEq,and_assoc]
theorem dfE_iff (x y : Dfn) : dfE x y = true↔x = y:=by
 cases x; cases y
 simp only [dfE,Bool.and_eq_true,decide_eq_true_eq,bsEq_e,Dfn.mk.injEq,and_assoc]
theorem clE_iff (x y : Cel) : clE x y = true↔x = y:=by
 cases x; cases y
 simp only [clE,Bool.and_eq_true,bsEq_e,Cel.mk.injEq]
theorem tbE_iff (x y : Tbl) : tbE x y = true↔x = y:=by
 cases x; cases y
 simp only [tbE,Bool.and_eq_true,bsEq_e,smL_iff dfE_iff,smL_iff (fun l m=>smL_iff vlE_iff (l:=l) (m:=m)),Tbl.mk.injEq,and_assoc]
theorem nm_ne {t u : Tbl} (h : nmR t u) : t.n ≠ u.n:=fun e=>by
 unfold nmR at h
 rw [e] at h
 have:=bl_asym _ _ h
 rw [h] at this; cases this
end Go.Proofs.YtpgfhkbnngjegaaGreatDoor
