/- Values: which may be, how they are made, how they stand to one another. No condition. -/
import Derived.Test.YtpgfhkbnngjegaaGreatDoorX1
import Derived.Test.YtpgfhkbnngjegaaGreatDoorU5
import Derived.Test.YtpgfhkbnngjegaaGreatDoorU6
namespace Go.Proofs.YtpgfhkbnngjegaaGreatDoor
open Go.RowKit
set_option linter.unusedVariables false
set_option linter.unusedSimpArgs false
theorem qv10 {p : Prop} (h : p:=by
 conv=>whnf
 refine FinG.mk none ?_ zqR
 simp only [outs,zqL]
 simp_all [checkN,rightB,bsEq_t,bsEq_f,bs_nil]; done) : p:=h
theorem qv11 {p : Prop} (h : p:=by
 refine ⟨?_,?_,?_⟩
 ·repeat ((conv=>whnf); first | exact True.intro | refine ⟨.rfl,?_⟩ | refine ⟨.any,?_⟩ | refine ⟨.nil,?_⟩ | refine ⟨.int (by first | rfl | omega | (simp only [wrs]; omega)),?_⟩)
 ·repeat (first | exact LeVs.nil | ((conv=>whnf); first | exact True.intro | exact .none | exact .ext | exact .row rfl | refine .cells ?_ | refine ⟨_,_,rfl,.rfl,?_⟩ | refine ⟨_,_,rfl,.any,?_⟩ | refine ⟨_,_,rfl,.nil,?_⟩ | refine ⟨_,_,rfl,.int (by first | rfl | omega | (simp only [wrs]; omega)),?_⟩ | refine ⟨?_,?_⟩))
  done
 ·exact LeFr.nil) : p:=h
theorem qv12 {p : Prop} (h : p:=by
 conv=>whnf
 refine FinG.mk none ?_ zqR
 simp only [outs,zqL]
 simp [cmpI]; omega) : p:=h
theorem qv13 {p : Prop} (h : p:=by
 conv=>whnf
 refine FinG.mk none ?_ zqR
 simp only [outs,zqL]
 have he : ¬ (a.k = b.k∧a.n = b.n∧bs a.t = bs b.t):=fun h=>by simp_all [eqV,bsEq]
 simp_all [cmpV,orN,cmpI,cmpS]) : p:=h
theorem qv14 {p : Prop} (h : p:=by
 conv=>whnf
 refine FinG.mk none ?_ zqR
 simp only [outs,zqL]
 simp_all [rightB,bsEq_t,bsEq_f,bs_nil]; done) : p:=h
theorem qv15 {p : Prop} (h : p:=by
 repeat ((conv=>whnf); first | exact True.intro | refine ⟨.rfl,?_⟩ | refine ⟨.any,?_⟩ | refine ⟨.nil,?_⟩ | refine ⟨.int (by first | rfl | omega | (simp only [wrs]; omega)),?_⟩)) : p:=h
theorem qv16 {p : Prop} (h : p:=by
 conv=>whnf
 refine FinG.mk none ?_ zqR
 simp only [outs,zqL]
 simp_all [rightB,bsEq_t,bsEq_f,bs_nil]; omega) : p:=h
theorem qv17 {p : Prop} (h : p:=by
 conv=>whnf
 refine FinG.mk none ?_ zqR
 simp only [outs,zqL]
 simp_all [cmpS]; done) : p:=h
theorem qv18 {p : Prop} (h : p:=by
 conv=>whnf
 refine bF zqF ?_
 conv=>whnf
 refine bF zqF ?_
 conv=>whnf
 refine bF zqF ?_
 exact qv10) : p:=h
theorem qv19 {p : Prop} (h : p:=by
 conv=>whnf
 refine bF zqF ?_
 conv=>whnf
 refine FinG.mk none ?_ zqR
 simp only [outs,zqL]
 have he : ¬ (a.k = b.k∧a.n = b.n∧bs a.t = bs b.t):=fun h=>by simp_all [eqV,bsEq]
 simp [cmpV,orN,cmpI,cmpS]
 simp_all
 omega) : p:=h
theorem qv110 {p : Prop} (h : p:=by
 conv=>whnf
 refine bS (fun hc1=>?_) (fun hc1=>?_)
 ·try simp only [bls] at hc1
  exact qv12
 ·try simp only [bls] at hc1
  conv=>whnf
  refine bS (fun hc2=>?_) (fun hc2=>?_)
  ·try simp only [bls] at hc2
   exact qv12
  ·try simp only [bls] at hc2
   exact qv12) : p:=h
theorem qv111 {p : Prop} (h : p:=by
 conv=>whnf
 refine FinG.mk (some 1) ?_ (by rintro _ ⟨⟩; trivial)
 simp only [outs,zqL,fr_by1]
 have hr:=hc1
 simp only [checkN_0] at hr
 simp [encV,encB,hr,hc1,by1, *]) : p:=h
theorem qv112 {p : Prop} (h : p:=by
 try simp only [bls] at hc13
 conv=>whnf
 refine FinG.mk none ?_ zqR
 simp only [outs,zqL]
 simp_all [checkN,rightB,bsEq_t,bsEq_f,bs_nil]; omega) : p:=h
theorem qv113 {p : Prop} (h : p:=by
 intro B w0
 conv=>whnf
 refine FinG.mk none ?_ zqR
 simp only [outs,zqL]
 simp; done) : p:=h
theorem qv114 {p : Prop} (h : p:=by
 conv=>whnf
 refine bF zqF ?_
 conv=>whnf
 refine bF zqF ?_
 conv=>whnf
 refine bF zqF ?_
 exact qv14) : p:=h
theorem qv115 {p : Prop} (h : p:=by
 conv=>whnf
 refine bF zqF ?_
 conv=>whnf
 refine bF zqF ?_
 conv=>whnf
 refine bF zqF ?_
 exact qv16) : p:=h
set_option maxRecDepth 20000
structure Val where
  k : Int
  n : Int
  t : ByteArray
def Val.Ok (v : Val) : Prop:=-9223372036854775808 ≤ v.k∧v.k < 9223372036854775808∧-9223372036854775808 ≤ v.n∧v.n < 9223372036854775808∧v.t.size ≤ 140737488355328
def valT (v : Val) : TV:=.agg [.v (.int .i64 v.k),.v (.int .i64 v.n),.v (.string v.t)]
def valY (v : Val) : XV:=.ag [.p (.v (.int .i64 v.k)) (nlv _),.p (.v (.int .i64 v.n)) (nlv _),.p (.v (.string v.t)) (nlv _)]
/-- Which values may be. -/
def rightB (v : Val) : Bool:=(decide (v.k = 1) && decide (v.n = 0) && bsEq v.t ⟨#[]⟩) || (decide (v.k = 2) && (decide (v.n = 0) || decide (v.n = 1)) && bsEq v.t ⟨#[]⟩) || (decide (v.k = 3) && bsEq v.t ⟨#[]⟩) || (decide (v.k = 4) && decide (v.n = 0) && decide (v.t.size ≤ 64))
def checkN (v : Val) : Int:=if rightB v then 0 else 150
theorem checkN_0 (v : Val) : (checkN v = 0) = (rightB v = true):=by unfold checkN; split <;> simp_all
def i64c (x : Int) : List TV:=[.v (.int .i64 x)]
theorem nl_i64 (l : List Int) : NlLL (l.map i64c):=.map fun x _=>.cons (nlv _) .nil
theorem pu_i64 (l : List Int) : PuLL (l.map i64c):=PuLL_map _ _ fun x _=>by simp [i64c,PuL,Pu]
theorem ut_i64 (l : List Int) : untagLL (l.map i64c) = l.map i64c:=by
  rw [untagLL_map]; exact List.map_congr_left fun x _=>rfl
theorem bs_size (u : ByteArray) : (bs u).length = u.size:=Array.length_toList
theorem bs_nil : bs { data:=#[] } = []:=rfl
/-- The first that is not nought. -/
def orN : List Int→Int
  | []=>0
  | x :: l=>if x = 0 then orN l else x
def cmpI (a b : Int) : Int:=if a < b then -1 else if b < a then 1 else 0
def cmpS (a b : List UInt8) : Int:=if Op.bytesLess a b then -1 else if a = b then 0 else 1
set_option maxRecDepth 20000 in
theorem check_X (v : Val) : XMeets Tryz.prog 104 [valT v] (.p (.v (.int .i64 (checkN v))) (nlv _)):=by
 refine XMeets.of_X tabX_ok (avs:=[valY v]) [(0,valY v)] (by kernel_rfl) Tryz.func104 rfl (by simp [PuL,Pu,valT]) (rfl) rfl rfl ?_
 intro B w0
 conv=>whnf
 refine bS (fun hc1=>?_) (fun hc1=>?_)
 ·try simp only [bls] at hc1
  conv=>whnf
  refine bS (fun hc2=>?_) (fun hc2=>?_)
  ·try simp only [bls] at hc2
   conv=>whnf
   refine bT zqT ?_
   conv=>whnf
   refine bT zqT ?_
   conv=>whnf
   refine bT zqT ?_
   conv=>whnf
   refine bS (fun hc3=>?_) (fun hc3=>?_)
   ·try simp only [bls] at hc3
    exact qv10
   ·try simp only [bls] at hc3
    exact qv10
  ·try simp only [bls] at hc2
   exact qv18
 ·try simp only [bls] at hc1
  conv=>whnf
  refine bS (fun hc4=>?_) (fun hc4=>?_)
  ·try simp only [bls] at hc4
   conv=>whnf
   refine bS (fun hc5=>?_) (fun hc5=>?_)
   ·try simp only [bls] at hc5
    conv=>whnf
    refine bT zqT ?_
    conv=>whnf
    refine bT zqT ?_
    conv=>whnf
    refine bT zqT ?_
    conv=>whnf
    refine bS (fun hc6=>?_) (fun hc6=>?_)
    ·try simp only [bls] at hc6
     exact qv10
    ·try simp only [bls] at hc6
     exact qv10
   ·try simp only [bls] at hc5
    conv=>whnf
    refine bF zqF ?_
    conv=>whnf
    refine bF zqF ?_
    conv=>whnf
    refine bF zqF ?_
    conv=>whnf
    refine bS (fun hc7=>?_) (fun hc7=>?_)
    ·try simp only [bls] at hc7
     conv=>whnf
     refine bT zqT ?_
     conv=>whnf
     refine bT zqT ?_
     conv=>whnf
     refine bT zqT ?_
     conv=>whnf
     refine bS (fun hc8=>?_) (fun hc8=>?_)
     ·try simp only [bls] at hc8
      exact qv10
     ·try simp only [bls] at hc8
      exact qv10
    ·try simp only [bls] at hc7
     exact qv18
  ·try simp only [bls] at hc4
   conv=>whnf
   refine bS (fun hc9=>?_) (fun hc9=>?_)
   ·try simp only [bls] at hc9
    conv=>whnf
    refine bS (fun hc10=>?_) (fun hc10=>?_)
    ·try simp only [bls] at hc10
     exact qv10
    ·try simp only [bls] at hc10
     exact qv10
   ·try simp only [bls] at hc9
    conv=>whnf
    refine bS (fun hc11=>?_) (fun hc11=>?_)
    ·try simp only [bls] at hc11
     conv=>whnf
     refine bS (fun hc12=>?_) (fun hc12=>?_)
     ·try simp only [bls] at hc12
      conv=>whnf
      refine bT zqT ?_
      conv=>whnf
      refine bT zqT ?_
      conv=>whnf
      refine bT zqT ?_
      conv=>whnf
      refine bT zqT ?_
      conv=>whnf
      refine bS (fun hc13=>?_) (fun hc13=>?_)
      ·exact qv112
      ·exact qv112
     ·try simp only [bls] at hc12
      conv=>whnf
      refine bF zqF ?_
      exact qv18
    ·try simp only [bls] at hc11
     exact qv10
set_option maxRecDepth 20000 in
theorem right_X (v : Val) : XMeets Tryz.prog 21 [valT v] (.p (.v (.bool (rightB v))) (nlv _)):=by
 refine XMeets.of_X tabX_ok (avs:=[valY v]) [(0,valY v)] (by kernel_rfl) Tryz.func21 rfl (by simp [PuL,Pu,valT]) (rfl) rfl rfl ?_
 intro B w0
 conv=>whnf
 refine bS (fun hc1=>?_) (fun hc1=>?_)
 ·try simp only [bls] at hc1
  conv=>whnf
  refine bS (fun hc2=>?_) (fun hc2=>?_)
  ·try simp only [bls] at hc2
   conv=>whnf
   refine bT zqT ?_
   conv=>whnf
   refine bT zqT ?_
   conv=>whnf
   refine bT zqT ?_
   exact qv14
  ·try simp only [bls] at hc2
   exact qv114
 ·try simp only [bls] at hc1
  conv=>whnf
  refine bS (fun hc3=>?_) (fun hc3=>?_)
  ·try simp only [bls] at hc3
   conv=>whnf
   refine bS (fun hc4=>?_) (fun hc4=>?_)
   ·try simp only [bls] at hc4
    conv=>whnf
    refine bT zqT ?_
    conv=>whnf
    refine bT zqT ?_
    conv=>whnf
    refine bT zqT ?_
    conv=>whnf
    refine bS (fun hc5=>?_) (fun hc5=>?_)
    ·try simp only [bls] at hc5
     conv=>whnf
     refine bT zqT ?_
     conv=>whnf
     refine bT zqT ?_
     conv=>whnf
     refine bT zqT ?_
     conv=>whnf
     refine FinG.mk none ?_ zqR
     simp only [outs,zqL]
     have hn01 : v.n = 0∨v.n = 1:=by omega
     rcases hn01 with hn01 | hn01 <;> simp_all [rightB,bsEq_t,bsEq_f,bs_nil]
    ·try simp only [bls] at hc5
     exact qv115
   ·try simp only [bls] at hc4
    exact qv115
  ·try simp only [bls] at hc3
   conv=>whnf
   refine bS (fun hc6=>?_) (fun hc6=>?_)
   ·try simp only [bls] at hc6
    exact qv14
   ·try simp only [bls] at hc6
    conv=>whnf
    refine bS (fun hc7=>?_) (fun hc7=>?_)
    ·try simp only [bls] at hc7
     conv=>whnf
     refine bS (fun hc8=>?_) (fun hc8=>?_)
     ·try simp only [bls] at hc8
      conv=>whnf
      refine bT zqT ?_
      conv=>whnf
      refine bT zqT ?_
      conv=>whnf
      refine bT zqT ?_
      conv=>whnf
      refine bT zqT ?_
      exact qv16
     ·try simp only [bls] at hc8
      conv=>whnf
      refine bF zqF ?_
      exact qv114
    ·try simp only [bls] at hc7
     exact qv14
set_option maxRecDepth 20000 in
theorem nan_i (x : Int) : XMeets Tryz.prog 144 [.v (.int .i64 x)] (.p (.v (.bool false)) (nlv _)):=by
 refine XMeets.of_X tabX_ok (avs:=[.p (.v (.int .i64 x)) (nlv _)]) [(0,.p (.v (.int .i64 x)) (nlv _))] (by kernel_rfl) Tryz.func144 rfl (by simp [PuL,Pu]) (rfl) rfl rfl ?_
 exact qv113
set_option maxRecDepth 20000 in
theorem nan_j (x : Int) : XMeets Tryz.prog 145 [.v (.int .i64 x)] (.p (.v (.bool false)) (nlv _)):=by
 refine XMeets.of_X tabX_ok (avs:=[.p (.v (.int .i64 x)) (nlv _)]) [(0,.p (.v (.int .i64 x)) (nlv _))] (by kernel_rfl) Tryz.func145 rfl (by simp [PuL,Pu]) (rfl) rfl rfl ?_
 exact qv113
set_option maxRecDepth 20000 in
theorem nan_s (x : ByteArray) : XMeets Tryz.prog 146 [.v (.string x)] (.p (.v (.bool false)) (nlv _)):=by
 refine XMeets.of_X tabX_ok (avs:=[.p (.v (.string x)) (nlv _)]) [(0,.p (.v (.string x)) (nlv _))] (by kernel_rfl) Tryz.func146 rfl (by simp [PuL,Pu]) (rfl) rfl rfl ?_
 intro B w0
 conv=>whnf
 refine FinG.mk none ?_ zqR
 simp only [outs,zqL]
 simp [bsEq]
set_option maxRecDepth 20000 in
theorem cmp_i (x y : Int) : XMeets Tryz.prog 106 [.v (.int .i64 x),.v (.int .i64 y)] (.p (.v (.int .i64 (cmpI x y))) (nlv _)):=by
 refine XMeets.of_X tabX_ok (avs:=[.p (.v (.int .i64 x)) (nlv _),.p (.v (.int .i64 y)) (nlv _)]) [(0,.p (.v (.int .i64 x)) (nlv _)),(1,.p (.v (.int .i64 y)) (nlv _))] (by kernel_rfl) Tryz.func106 rfl (by simp [PuL,Pu]) (rfl) rfl rfl ?_
 intro B w0
 conv=>whnf
 refine .ct ?_
 conv=>whnf
 refine CallG.mk (nan_i _) rfl ?_
 conv=>whnf
 refine .ct ?_
 conv=>whnf
 refine CallG.mk (nan_i _) rfl ?_
 exact qv110
set_option maxRecDepth 20000 in
theorem cmp_j (x y : Int) : XMeets Tryz.prog 107 [.v (.int .i64 x),.v (.int .i64 y)] (.p (.v (.int .i64 (cmpI x y))) (nlv _)):=by
 refine XMeets.of_X tabX_ok (avs:=[.p (.v (.int .i64 x)) (nlv _),.p (.v (.int .i64 y)) (nlv _)]) [(0,.p (.v (.int .i64 x)) (nlv _)),(1,.p (.v (.int .i64 y)) (nlv _))] (by kernel_rfl) Tryz.func107 rfl (by simp [PuL,Pu]) (rfl) rfl rfl ?_
 intro B w0
 conv=>whnf
 refine .ct ?_
 conv=>whnf
 refine CallG.mk (nan_j _) rfl ?_
 conv=>whnf
 refine .ct ?_
 conv=>whnf
 refine CallG.mk (nan_j _) rfl ?_
 exact qv110
theorem bytesLess_irrefl : ∀ a : List UInt8,Op.bytesLess a a = false
  | []=>rfl
  | x :: xs=>by simp [Op.bytesLess,bytesLess_irrefl xs]
theorem bytesLess_trich : ∀ a b : List UInt8,Op.bytesLess a b = false→¬ a = b→Op.bytesLess b a = true
  | [],[],_,h=>(h rfl).elim
  | [],_ :: _,h,_=>by simp [Op.bytesLess] at h
  | _ :: _,[],_,_=>rfl
  | x :: xs,y :: ys,h,hn=>by
    simp only [Op.bytesLess,Bool.or_eq_false_iff,Bool.and_eq_false_iff,decide_eq_false_iff_not,beq_eq_false_iff_ne,Bool.or_eq_true,decide_eq_true_eq,Bool.and_eq_true,beq_iff_eq] at h ⊢
    by_cases hxy : x = y
    · subst hxy
      refine .inr ⟨rfl,bytesLess_trich xs ys ?_ fun e=>hn (by rw [e])⟩
      rcases h.2 with h | h
      · exact (h rfl).elim
      · exact h
    · left
      have h1 : ¬ x.toNat < y.toNat:=h.1
      have h2 : x.toNat ≠ y.toNat:=fun e=>hxy (UInt8.toNat.inj e)
      show y.toNat < x.toNat
      omega
theorem orN_drop {l : List Int} {k : Nat} {x : Int} (h : l[k]? = some x) (hx : x = 0) : orN (l.drop (k + 1)) = orN (l.drop k):=by
  rw [List.drop_eq_getElem_cons (List.getElem?_eq_some_iff.1 h).1,(List.getElem?_eq_some_iff.1 h).2]
  simp [orN,hx]
theorem orN_at {l : List Int} {k : Nat} {x : Int} (h : l[k]? = some x) (hx : x ≠ 0) : orN (l.drop k) = x:=by
  rw [List.drop_eq_getElem_cons (List.getElem?_eq_some_iff.1 h).1,(List.getElem?_eq_some_iff.1 h).2]
  simp [orN,hx]
set_option maxRecDepth 20000 in
theorem cmp_s (x y : ByteArray) : XMeets Tryz.prog 108 [.v (.string x),.v (.string y)] (.p (.v (.int .i64 (cmpS (bs x) (bs y)))) (nlv _)):=by
 refine XMeets.of_X tabX_ok (avs:=[.p (.v (.string x)) (nlv _),.p (.v (.string y)) (nlv _)]) [(0,.p (.v (.string x)) (nlv _)),(1,.p (.v (.string y)) (nlv _))] (by kernel_rfl) Tryz.func108 rfl (by simp [PuL,Pu]) (rfl) rfl rfl ?_
 intro B w0
 conv=>whnf
 refine .ct ?_
 conv=>whnf
 refine CallG.mk (nan_s _) rfl ?_
 conv=>whnf
 refine .ct ?_
 conv=>whnf
 refine CallG.mk (nan_s _) rfl ?_
 conv=>whnf
 refine bS (fun hc1=>?_) (fun hc1=>?_)
 ·try simp only [bls] at hc1
  exact qv17
 ·try simp only [bls] at hc1
  conv=>whnf
  refine bS (fun hc2=>?_) (fun hc2=>?_)
  ·try simp only [bls] at hc2
   exact qv17
  ·try simp only [bls] at hc2
   exact qv17
set_option maxRecDepth 20000 in
theorem or_X (b : Bool) (l : List Int) (hl : l.length ≤ 1000) : XMeets Tryz.prog 105 [.sl b (l.map i64c)] (.p (.v (.int .i64 (orN l))) (nlv _)):=by
 refine XMeets.of_X tabX_ok (avs:=[.p (.sl false (l.map i64c)) ((nl_i64 l).sl)]) [(0,.p (.sl false (l.map i64c)) ((nl_i64 l).sl))] (by kernel_rfl) Tryz.func105 rfl (by simp [PuL,Pu,pu_i64]) (by simp only [untagL,untag,ut_i64]; rfl) rfl rfl ?_
 intro B w0
 conv=>whnf
 refine XT.loop tabX_ok (Y:=Nat) [2,5,8,9,10,11,12,13,14,15,16] (fun k=>[(8,.p (.v (.int .i64 k)) (nlv _))]) (fun k=>[]) (fun k=>k ≤ l.length∧orN (l.drop k) = orN l) (fun k=>l.length - k) 0 ⟨Nat.zero_le _,rfl⟩ ?_ ?_
 ·exact qv11
 ·rintro k ⟨hk,ho⟩
  conv=>whnf
  refine bS (fun hc1=>?_) (fun hc1=>?_)
  ·try simp only [bls] at hc1
   conv=>whnf
   refine IdxG.map _ rfl (by first | omega | (simp only [bls] at *; omega)) ?_; intro x_ hx_ hk_
   conv=>whnf
   refine ⟨rfl,?_⟩
   conv=>whnf
   refine bS (fun hc2=>?_) (fun hc2=>?_)
   ·try simp only [bls] at hc2
    conv=>whnf
    refine FinG.mk none ?_ zqR
    simp only [outs,zqL]
    rw [← ho,orN_at hx_ (by assumption)]
   ·try simp only [bls] at hc2
    conv=>whnf
    refine ⟨(k + 1),⟨by omega,(orN_drop hx_ (by assumption)).trans ho⟩,by omega,?_⟩
    exact qv11
  ·try simp only [bls] at hc1
   conv=>whnf
   refine FinG.mk none ?_ zqR
   simp only [outs,zqL]
   rw [← ho,List.drop_eq_nil_of_le (by omega)]; rfl
def eqV (a b : Val) : Bool:=decide (a.k = b.k) && decide (a.n = b.n) && bsEq a.t b.t
theorem eqV_t {a b : Val} (h : eqV a b = true) : a = b:=by
  cases a; cases b
  simp only [eqV,Bool.and_eq_true,decide_eq_true_eq,bsEq_t] at h
  obtain ⟨⟨h1,h2⟩,h3⟩:=h
  rw [h1,h2,bs_ext h3]
theorem eqVal_run (x y : Operand) (a b : Int) (s : ByteArray) (c d : Int) (t : ByteArray) (w : World) : (do eqGuard .eql 42 x y (.agg #[.int .i64 a,.int .i64 b,.string s]) (.agg #[.int .i64 c,.int .i64 d,.string t]); binOp .eql 42 (.agg #[.int .i64 a,.int .i64 b,.string s]) (.agg #[.int .i64 c,.int .i64 d,.string t]) : Sem Value).run Tryz.prog w = .ok (.bool (eqV ⟨a,b,s⟩ ⟨c,d,t⟩)) w:=by
  go_simp
  by_cases h1 : a = c <;> by_cases h2 : b = d <;> by_cases h3 : bs s = bs t <;> simp [h1,h2,h3,eqV,bsEq,bs_eq]
theorem neVal_run (x y : Operand) (a b : Int) (s : ByteArray) (c d : Int) (t : ByteArray) (w : World) : (do eqGuard .neq 42 x y (.agg #[.int .i64 a,.int .i64 b,.string s]) (.agg #[.int .i64 c,.int .i64 d,.string t]); binOp .neq 42 (.agg #[.int .i64 a,.int .i64 b,.string s]) (.agg #[.int .i64 c,.int .i64 d,.string t]) : Sem Value).run Tryz.prog w = .ok (.bool (!(eqV ⟨a,b,s⟩ ⟨c,d,t⟩))) w:=by
  go_simp
  by_cases h1 : a = c <;> by_cases h2 : b = d <;> by_cases h3 : bs s = bs t <;> simp [h1,h2,h3,eqV,bsEq,bs_eq]
/-- How two values stand to one another. -/
def cmpV (a b : Val) : Int:=orN [cmpI a.k b.k,cmpI a.n b.n,cmpS (bs a.t) (bs b.t)]
set_option maxRecDepth 20000 in
theorem compare_X (a b : Val) : XMeets Tryz.prog 59 [valT a,valT b] (.p (.v (.int .i64 (cmpV a b))) (nlv _)):=by
 refine XMeets.of_X tabX_ok (avs:=[valY a,valY b]) [(0,valY a),(1,valY b)] (by kernel_rfl) Tryz.func59 rfl (by simp [PuL,Pu,valT]) (rfl) rfl rfl ?_
 intro B w0
 conv=>whnf
 refine RegG.par 15 (by kernel_rfl) ?_
 conv=>whnf
 refine CallG.mk (cmp_i _ _) rfl ?_
 conv=>whnf
 refine CallG.mk (cmp_j _ _) rfl ?_
 conv=>whnf
 refine CallG.mk (cmp_s _ _) rfl ?_
 conv=>whnf
 refine .ct ?_
 conv=>whnf
 refine CallG.mk (or_X true [_,_,_] (Nat.le_of_ble_eq_true rfl)) rfl ?_
 conv=>whnf
 refine FinG.mk none ?_ zqR
 simp only [outs,zqL]
 rfl
set_option maxRecDepth 20000 in
theorem compare5_X (a b : Val) : XMeets Tryz.prog 56 [valT a,valT b] (.p (.v (.int .i64 (cmpV a b))) (nlv _)):=by
 refine XMeets.of_X tabX_ok (avs:=[valY a,valY b]) [(0,valY a),(1,valY b)] (by kernel_rfl) Tryz.func56 rfl (by simp [PuL,Pu,valT]) (rfl) rfl rfl ?_
 intro B w0
 conv=>whnf
 refine BinG.mk rfl rfl (eqVal_run _ _ _ _ _ _ _ _) ?_
 conv=>whnf
 refine bS (fun hc1=>?_) (fun hc1=>?_)
 ·try simp only [bls] at hc1
  conv=>whnf
  refine FinG.mk none ?_ zqR
  simp only [outs,zqL]
  have e0 : a = b:=eqV_t hc1
  subst e0
  simp [cmpV,orN,cmpI,cmpS,bytesLess_irrefl]
 ·try simp only [bls] at hc1
  conv=>whnf
  refine bS (fun hc2=>?_) (fun hc2=>?_)
  ·try simp only [bls] at hc2
   conv=>whnf
   refine bT zqT ?_
   conv=>whnf
   refine bT zqT ?_
   conv=>whnf
   refine bT zqT ?_
   conv=>whnf
   refine bT zqT ?_
   conv=>whnf
   refine bT zqT ?_
   conv=>whnf
   refine bT zqT ?_
   conv=>whnf
   refine bT zqT ?_
   exact qv13
  ·try simp only [bls] at hc2
   conv=>whnf
   refine bF zqF ?_
   conv=>whnf
   refine bF zqF ?_
   conv=>whnf
   refine bF zqF ?_
   conv=>whnf
   refine bF zqF ?_
   conv=>whnf
   refine bF zqF ?_
   conv=>whnf
   refine bS (fun hc3=>?_) (fun hc3=>?_)
   ·try simp only [bls] at hc3
    conv=>whnf
    refine bT zqT ?_
    conv=>whnf
    refine bT zqT ?_
    conv=>whnf
    refine bT zqT ?_
    conv=>whnf
    refine bT zqT ?_
    conv=>whnf
    refine bT zqT ?_
    conv=>whnf
    refine bS (fun hc4=>?_) (fun hc4=>?_)
    ·try simp only [bls] at hc4
     conv=>whnf
     refine bT zqT ?_
     conv=>whnf
     refine bT zqT ?_
     conv=>whnf
     refine bT zqT ?_
     conv=>whnf
     refine bT zqT ?_
     conv=>whnf
     refine bT zqT ?_
     conv=>whnf
     refine bT zqT ?_
     conv=>whnf
     refine bT zqT ?_
     conv=>whnf
     refine bT zqT ?_
     conv=>whnf
     refine bF zqF ?_
     conv=>whnf
     refine bT zqT ?_
     conv=>whnf
     refine bF zqF ?_
     exact qv13
    ·try simp only [bls] at hc4
     conv=>whnf
     refine bF zqF ?_
     conv=>whnf
     refine bF zqF ?_
     conv=>whnf
     refine bF zqF ?_
     conv=>whnf
     refine bF zqF ?_
     conv=>whnf
     refine bF zqF ?_
     conv=>whnf
     refine bS (fun hc5=>?_) (fun hc5=>?_)
     ·try simp only [bls] at hc5
      conv=>whnf
      refine bT zqT ?_
      conv=>whnf
      refine bT zqT ?_
      conv=>whnf
      refine bT zqT ?_
      conv=>whnf
      refine bT zqT ?_
      conv=>whnf
      refine bF zqF ?_
      conv=>whnf
      refine bT zqT ?_
      conv=>whnf
      refine bT zqT ?_
      conv=>whnf
      refine bF zqF ?_
      conv=>whnf
      refine bF zqF ?_
      conv=>whnf
      refine bT zqT ?_
      conv=>whnf
      refine bF zqF ?_
      conv=>whnf
      refine bS (fun hc6=>?_) (fun hc6=>?_)
      ·try simp only [bls] at hc6
       exact qv13
      ·try simp only [bls] at hc6
       exact qv13
     ·try simp only [bls] at hc5
      conv=>whnf
      refine bF zqF ?_
      conv=>whnf
      refine bF zqF ?_
      conv=>whnf
      refine bF zqF ?_
      conv=>whnf
      refine bF zqF ?_
      conv=>whnf
      refine bF zqF ?_
      conv=>whnf
      refine bF zqF ?_
      conv=>whnf
      refine bT zqT ?_
      conv=>whnf
      refine bF zqF ?_
      conv=>whnf
      refine bF zqF ?_
      conv=>whnf
      refine bT zqT ?_
      exact qv19
   ·try simp only [bls] at hc3
    conv=>whnf
    refine bF zqF ?_
    conv=>whnf
    refine bF zqF ?_
    conv=>whnf
    refine bF zqF ?_
    conv=>whnf
    refine bF zqF ?_
    conv=>whnf
    refine bF zqF ?_
    conv=>whnf
    refine bF zqF ?_
    conv=>whnf
    refine bF zqF ?_
    conv=>whnf
    refine bF zqF ?_
    exact qv19
def I64 (a : Int) : Prop:=-9223372036854775808 ≤ a∧a < 9223372036854775808
theorem pu_by1 (l : List Int) : PuLL (l.map by1):=PuLL_map _ _ fun x _=>by simp [by1,PuL,Pu]
theorem ut_by1 (l : List Int) : untagLL (l.map by1) = l.map by1:=by
  rw [untagLL_map]; exact List.map_congr_left fun x _=>rfl
theorem ap_by1 (l : List Int) : ApOk 1 (l.map by1):=fun c hc=>by
  obtain ⟨x,_,rfl⟩:=List.mem_map.1 hc
  exact ⟨rfl,rfl⟩
def byt (x : Int) (j : Nat) : Int:=x / 2 ^ (8 * (7 - j)) % 256
def beN (x : Int) (j : Nat) : List Int:=(List.range j).map (byt x)
theorem beN_len (x : Int) (j : Nat) : (beN x j).length = j:=by simp [beN]
theorem app_be (l : List Int) (x : Int) (j : Nat) (hj : j < 8) : (l ++ beN x j).map by1 ++ [[.v (.int .u8 (IntKind.u8.wrap (x.fdiv (2 ^ min (56 - 8 * (j : Int)).toNat IntKind.u64.bits))))]] = (l ++ beN x (j + 1)).map by1:=by
  have e1 : min (56 - 8 * (j : Int)).toNat IntKind.u64.bits = 8 * (7 - j):=by simp only [IntKind.bits]; omega
  have e2 : x.fdiv (2 ^ (8 * (7 - j))) = x / 2 ^ (8 * (7 - j)):=Int.fdiv_eq_ediv_of_nonneg _ (Int.le_of_lt (Int.pow_pos (by decide)))
  rw [e1,e2,wr_u8]
  simp [beN,List.range_succ,by1,byt]
theorem app_cp (l : List Int) (c : List TV) : List.map by1 l ++ List.drop (List.map by1 l).length (List.replicate l.length c) = (l ++ beN 0 0).map by1:=by
  rw [List.drop_eq_nil_of_le (by simp)]
  simp [beN]
set_option maxRecDepth 20000 in
theorem put_X (b : Bool) (l : List Int) (x : Int) (hl : l.length ≤ 100000000) : XMeets Tryz.prog 147 [.sl b ((l).map by1),.v (.int .u64 x),.v (.int .i64 8)] (.ow 5 1 ((l ++ beN x 8).map by1) (nl_by1 _)):=by
 refine XMeets.of_X tabX_ok (avs:=[.p (.sl false ((l).map by1)) ((nl_by1 _).sl),.p (.v (.int .u64 x)) (nlv _),.p (.v (.int .i64 8)) (nlv _)]) [(0,.p (.sl false ((l).map by1)) ((nl_by1 _).sl)),(1,.p (.v (.int .u64 x)) (nlv _)),(2,.p (.v (.int .i64 8)) (nlv _))] (by kernel_rfl) Tryz.func147 rfl (by simp [PuL,Pu,pu_by1]) (by simp only [untagL,untag,ut_by1]; rfl) rfl rfl ?_
 intro B w0
 conv=>whnf
 simp (disch:=omega) only [wz,Int.reduceAdd,Int.reduceSub,Int.reduceMul,Int.reduceNeg,Int.zero_add,Int.add_zero,Int.sub_zero,Int.sub_self]
 conv=>whnf
 refine ⟨l.length,l.length + 8,by simp,by simp only [wrs,List.length_map]; omega,by omega,(by show (l.length + 8) * 1 ≤ 140737488355328; omega),by omega,?_⟩
 conv=>whnf
 refine ⟨ap_by1 _,?_⟩
 conv=>whnf
 refine ⟨by simp only [List.length_map,List.length_append,beN_len,List.length_cons,List.length_nil,List.length_replicate,List.length_drop]; omega,?_⟩
 conv=>whnf
 refine XT.loop tabX_ok (Y:=Nat) [7,8,15,16,22,23,24,25,26,27,28,29,30,31,32] (fun j=>[(7,.row 0),(8,.p (.v (.int .i64 (56 - 8 * (j : Int)))) (nlv _))]) (fun j=>[(0,.row 5 1 ((l ++ beN x j).map by1) (nl_by1 _))]) (fun j=>j ≤ 8) (fun j=>8 - j) 0 (Nat.zero_le _) ?_ ?_
 ·refine ⟨?_,?_,?_⟩
  ·exact qv15
  ·repeat (first | exact LeVs.nil | ((conv=>whnf); first | exact True.intro | exact .none | exact .ext | exact .row rfl | exact .row (app_cp _ _) | refine .cells ?_ | refine ⟨_,_,rfl,.rfl,?_⟩ | refine ⟨_,_,rfl,.any,?_⟩ | refine ⟨_,_,rfl,.nil,?_⟩ | refine ⟨_,_,rfl,.int (by first | rfl | omega | (simp only [wrs]; omega)),?_⟩ | refine ⟨?_,?_⟩))
   done
  ·exact LeFr.nil
 ·rintro j hj
  conv=>whnf
  refine bS (fun hc1=>?_) (fun hc1=>?_)
  ·try simp only [bls] at hc1
   conv=>whnf
   refine bT zqT ?_
   conv=>whnf
   simp (disch:=omega) only [wz,Int.reduceAdd,Int.reduceSub,Int.reduceMul,Int.reduceNeg,Int.zero_add,Int.add_zero,Int.sub_zero,Int.sub_self]
   conv=>whnf
   refine ⟨ApOk.lit rfl,?_⟩
   conv=>whnf
   refine ⟨by simp only [List.length_map,List.length_append,beN_len,List.length_cons,List.length_nil,List.length_replicate,List.length_drop]; omega,?_⟩
   conv=>whnf
   refine ⟨(j + 1),by omega,by omega,?_⟩
   refine ⟨?_,?_,?_⟩
   ·exact qv15
   ·repeat (first | exact LeVs.nil | ((conv=>whnf); first | exact True.intro | exact .none | exact .ext | exact .row rfl | exact .row (app_be _ _ _ (by omega)) | refine .cells ?_ | refine ⟨_,_,rfl,.rfl,?_⟩ | refine ⟨_,_,rfl,.any,?_⟩ | refine ⟨_,_,rfl,.nil,?_⟩ | refine ⟨_,_,rfl,.int (by first | rfl | omega | (simp only [wrs]; omega)),?_⟩ | refine ⟨?_,?_⟩))
    done
   ·exact LeFr.nil
  ·try simp only [bls] at hc1
   conv=>whnf
   refine FinG.mk (some 0) ?_ (by rintro _ ⟨⟩; trivial)
   simp only [outs,zqL,beN_len]
   obtain rfl : j = 8:=by omega
   exact ⟨rfl,fr_by1 _⟩
def bi (u : ByteArray) : List Int:=(bs u).map fun c=>(c.toNat : Int)
def esc1 (c : Int) : List Int:=if c = 0 then [0,255] else [c]
def escT (u : ByteArray) (k : Nat) : List Int:=((bi u).take k).flatMap esc1
theorem bi_len (u : ByteArray) : (bi u).length = u.size:=by rw [bi,List.length_map,bs_size]
theorem str_at {u : ByteArray} {k : Nat} (h : k < u.size) : u[k]? = some ((bs u).getD k 0):=by
  have h2 : k < u.data.size:=h
  rw [getElem?_pos u k h]
  congr 1
  show u.data[k] = _
  simp [bs,List.getD,Array.getElem?_eq_getElem h2]
theorem escT_succ {u : ByteArray} {k : Nat} (h : k < u.size) : escT u (k + 1) = escT u k ++ esc1 (((bs u).getD k 0).toNat : Int):=by
  have h2 : k < (bi u).length:=by rw [bi_len]; exact h
  have h3 : (bi u)[k]? = some (((bs u).getD k 0).toNat : Int):=by
    have : k < (bs u).length:=by rw [bs_size]; exact h
    simp [bi,List.getD,this]
  rw [escT,escT,List.take_add_one,h3,List.flatMap_append]
  simp
theorem escT_all (u : ByteArray) : escT u u.size = (bi u).flatMap esc1:=by rw [escT,List.take_of_length_le (by rw [bi_len]; exact Nat.le_refl _)]
theorem escT_len (u : ByteArray) (k : Nat) : (escT u k).length ≤ 2 * k:=by
  have key : ∀ l : List Int,(l.flatMap esc1).length ≤ 2 * l.length:=by
    intro l
    induction l with
    | nil=>simp
    | cons x l ih=>
      have : (esc1 x).length ≤ 2:=by unfold esc1; split <;> simp
      rw [List.flatMap_cons,List.length_append,List.length_cons]; omega
  refine Nat.le_trans (key _) ?_
  have:=List.length_take_le k (bi u)
  omega
theorem xor63 {n : Int} (h : I64 n) : IntKind.u64.wrap ((BitVec.ofInt IntKind.u64.bits (IntKind.u64.wrap n) ^^^ BitVec.ofInt IntKind.u64.bits 9223372036854775808).toNat : Int) = n + 9223372036854775808:=by
  have key : ∀ y : Nat,y < 2 ^ 63→(2 ^ 63 + y) ^^^ 2 ^ 63 = y∧y ^^^ 2 ^ 63 = 2 ^ 63 + y:=by
    intro y hy
    have h2 : y ^^^ 2 ^ 63 = 2 ^ 63 + y:=by
      apply Nat.eq_of_testBit_eq
      intro j
      have:=Nat.testBit_two_pow_mul_add (a:=1) hy j
      rw [Nat.mul_one] at this
      rw [this,Nat.testBit_xor,Nat.testBit_two_pow]
      by_cases hj : j < 63
      · have : ¬ 63 = j:=by omega
        simp [hj,this]
      · have h3 : y.testBit j = false:=Nat.testBit_lt_two_pow (Nat.lt_of_lt_of_le hy (Nat.pow_le_pow_right (by decide) (by omega)))
        rw [if_neg hj,h3]
        by_cases he : 63 = j
        · subst he; simp
        · have : ¬ j - 63 = 0:=by omega
          rw [Nat.testBit_lt_two_pow (Nat.one_lt_two_pow this)]; simp [he]
    exact ⟨by rw [← h2,Nat.xor_assoc,Nat.xor_self,Nat.xor_zero],h2⟩
  show IntKind.u64.wrap ((BitVec.ofInt 64 (IntKind.u64.wrap n) ^^^ BitVec.ofInt 64 9223372036854775808).toNat : Int) = _
  rw [BitVec.toNat_xor,BitVec.toNat_ofInt,BitVec.toNat_ofInt,wr_u64,wr_u64]
  unfold I64 at h
  have e1 : ((9223372036854775808 : Int) % ((2 ^ 64 : Nat) : Int)).toNat = 2 ^ 63:=by decide
  rw [e1]
  by_cases hn : 0 ≤ n
  · have e2 : (n % 18446744073709551616 % ((2 ^ 64 : Nat) : Int)).toNat = n.toNat:=by omega
    rw [e2,(key n.toNat (by omega)).2]
    omega
  · have e2 : (n % 18446744073709551616 % ((2 ^ 64 : Nat) : Int)).toNat = 2 ^ 63 + (n + 9223372036854775808).toNat:=by omega
    rw [e2,(key _ (by omega)).1]
    omega
/-- A value's bytes. -/
def encB (v : Val) : List Int:=IntKind.u8.wrap v.k :: (if v.k = 2 then [IntKind.u8.wrap v.n] else if v.k = 3 then beN (v.n + 9223372036854775808) 8 else if v.k = 4 then (bi v.t).flatMap esc1 ++ [0,0] else [])
def encV (v : Val) : List Int:=if rightB v then encB v else []
theorem esc_z {k : Int} {u : ByteArray} {j : Nat} (h : j < u.size) (hz : (((bs u).getD j 0).toNat : Int) = 0) : (IntKind.u8.wrap k :: escT u j).map by1 ++ [[TV.v (.int .u8 (((bs u).getD j 0).toNat : Int))]] ++ [[TV.v (.int .u8 255)]] = (IntKind.u8.wrap k :: escT u (j + 1)).map by1:=by
  rw [escT_succ h,hz]; simp [by1,esc1]
theorem esc_c {k : Int} {u : ByteArray} {j : Nat} (h : j < u.size) (hz : ¬ (((bs u).getD j 0).toNat : Int) = 0) : (IntKind.u8.wrap k :: escT u j).map by1 ++ [[TV.v (.int .u8 (((bs u).getD j 0).toNat : Int))]] = (IntKind.u8.wrap k :: escT u (j + 1)).map by1:=by
  rw [escT_succ h]
  generalize (((bs u).getD j 0).toNat : Int) = c at hz ⊢
  simp [by1,esc1,hz]
set_option maxRecDepth 20000 in
theorem put64_X (b : Bool) (l : List Int) (x : Int) (hl : l.length ≤ 100000000) : XMeets Tryz.prog 111 [.sl b ((l).map by1),.v (.int .u64 x)] (.ow 5 1 ((l ++ beN x 8).map by1) (nl_by1 _)):=by
 refine XMeets.of_X tabX_ok (avs:=[.p (.sl false ((l).map by1)) ((nl_by1 _).sl),.p (.v (.int .u64 x)) (nlv _)]) [(0,.p (.sl false ((l).map by1)) ((nl_by1 _).sl)),(1,.p (.v (.int .u64 x)) (nlv _))] (by kernel_rfl) Tryz.func111 rfl (by simp [PuL,Pu,pu_by1]) (by simp only [untagL,untag,ut_by1]; rfl) rfl rfl ?_
 intro B w0
 conv=>whnf
 refine .ct ?_
 conv=>whnf
 refine CallG.mk (put_X _ _ _ hl) rfl ?_
 conv=>whnf
 refine FinG.mk (some 0) ?_ (by rintro _ ⟨⟩; trivial)
 simp only [outs,zqL,fr_by1]
set_option maxRecDepth 20000 in
theorem encode_X (v : Val) (hn : I64 v.n) : XMeets Tryz.prog 64 [valT v] (.tu [.ow 5 1 ((encV v).map by1) (nl_by1 _),.p (.v (.int .i64 (checkN v))) (nlv _)]):=by
 refine XMeets.of_X tabX_ok (avs:=[valY v]) [(0,valY v)] (by kernel_rfl) Tryz.func64 rfl (by simp [PuL,Pu,valT]) (rfl) rfl rfl ?_
 intro B w0
 have h64 : checkN v = 0→v.k = 4→v.t.size ≤ 64:=fun h h4=>by rw [checkN_0] at h; simp [rightB,h4] at h; exact h.2
 conv=>whnf
 refine .ct ?_
 conv=>whnf
 refine CallG.mk (check_X _) rfl ?_
 conv=>whnf
 refine bS (fun hc1=>?_) (fun hc1=>?_)
 ·try simp only [bls] at hc1
  conv=>whnf
  refine FinG.mk none ?_ zqR
  simp only [outs,zqL,fr_by1]
  simp only [checkN_0] at hc1
  simp [encV,hc1]
 ·try simp only [bls] at hc1
  conv=>whnf
  refine bS (fun hc2=>?_) (fun hc2=>?_)
  ·try simp only [bls] at hc2
   conv=>whnf
   refine ⟨ApOk.lit rfl,?_⟩
   conv=>whnf
   refine ⟨by simp only [List.length_map,List.length_append,beN_len,List.length_cons,List.length_nil,List.length_replicate,List.length_drop]; omega,?_⟩
   exact qv111
  ·try simp only [bls] at hc2
   conv=>whnf
   refine bS (fun hc3=>?_) (fun hc3=>?_)
   ·try simp only [bls] at hc3
    conv=>whnf
    refine .ct ?_
    conv=>whnf
    refine CallG.mk (put64_X _ [_] _ (by simp)) rfl ?_
    conv=>whnf
    refine FinG.mk (some 2) ?_ (by rintro _ ⟨⟩; trivial)
    simp only [outs,zqL,fr_by1]
    have hr:=hc1
    simp only [checkN_0] at hr
    rw [xor63 hn]
    simp [encV,encB,hr,hc1,by1, *]
   ·try simp only [bls] at hc3
    conv=>whnf
    refine bS (fun hc4=>?_) (fun hc4=>?_)
    ·try simp only [bls] at hc4
     conv=>whnf
     refine XT.loop tabX_ok (Y:=Nat) [5,6,15,39,40,41,42,43,44,45,46,47,48,49,50,51,52,53,54,55,56,57] (fun k=>[(39,.p (.v (.int .i64 k)) (nlv _)),(5,.row 1)]) (fun k=>[(1,.row 5 1 ((IntKind.u8.wrap v.k :: escT v.t k).map by1) (nl_by1 _))]) (fun k=>k ≤ v.t.size) (fun k=>v.t.size - k) 0 (Nat.zero_le _) ?_ ?_
     ·exact qv11
     ·rintro k hk
      have hsz:=h64 (by assumption) (by assumption)
      conv=>whnf
      refine bS (fun hc5=>?_) (fun hc5=>?_)
      ·try simp only [bls] at hc5
       conv=>whnf
       refine ⟨k,_,str_at (by omega),rfl,?_⟩
       conv=>whnf
       refine ⟨ApOk.lit rfl,?_⟩
       conv=>whnf
       refine ⟨by have:=escT_len v.t k; simp only [List.length_map,List.length_append,List.length_cons,List.length_nil]; omega,?_⟩
       conv=>whnf
       refine ⟨k,_,str_at (by omega),rfl,?_⟩
       conv=>whnf
       refine bS (fun hc6=>?_) (fun hc6=>?_)
       ·try simp only [bls] at hc6
        conv=>whnf
        refine ⟨ApOk.lit rfl,?_⟩
        conv=>whnf
        refine ⟨by have:=escT_len v.t k; simp only [List.length_map,List.length_append,List.length_cons,List.length_nil]; omega,?_⟩
        conv=>whnf
        refine ⟨(k + 1),by omega,by omega,?_⟩
        refine ⟨?_,?_,?_⟩
        ·exact qv15
        ·repeat (first | exact LeVs.nil | ((conv=>whnf); first | exact True.intro | exact .none | exact .ext | exact .row rfl | exact .row (esc_z (by omega) (by assumption)) | refine .cells ?_ | refine ⟨_,_,rfl,.rfl,?_⟩ | refine ⟨_,_,rfl,.any,?_⟩ | refine ⟨_,_,rfl,.nil,?_⟩ | refine ⟨_,_,rfl,.int (by first | rfl | omega | (simp only [wrs]; omega)),?_⟩ | refine ⟨?_,?_⟩))
         done
        ·exact LeFr.nil
       ·try simp only [bls] at hc6
        conv=>whnf
        refine ⟨(k + 1),by omega,by omega,?_⟩
        refine ⟨?_,?_,?_⟩
        ·exact qv15
        ·repeat (first | exact LeVs.nil | ((conv=>whnf); first | exact True.intro | exact .none | exact .ext | exact .row rfl | exact .row (esc_c (by omega) (by assumption)) | refine .cells ?_ | refine ⟨_,_,rfl,.rfl,?_⟩ | refine ⟨_,_,rfl,.any,?_⟩ | refine ⟨_,_,rfl,.nil,?_⟩ | refine ⟨_,_,rfl,.int (by first | rfl | omega | (simp only [wrs]; omega)),?_⟩ | refine ⟨?_,?_⟩))
         done
        ·exact LeFr.nil
      ·try simp only [bls] at hc5
       conv=>whnf
       refine ⟨ApOk.lit rfl,?_⟩
       conv=>whnf
       refine ⟨by have:=escT_len v.t k; simp only [List.length_map,List.length_append,List.length_cons,List.length_nil]; omega,?_⟩
       conv=>whnf
       refine FinG.mk (some 1) ?_ (by rintro _ ⟨⟩; trivial)
       simp only [outs,zqL,fr_by1]
       have hr:=hc1
       simp only [checkN_0] at hr
       obtain rfl : k = v.t.size:=by omega
       simp [encV,encB,hr,hc1,escT_all,by1, *]
    ·try simp only [bls] at hc4
     exact qv111
end Go.Proofs.YtpgfhkbnngjegaaGreatDoor
