/- Bytes and words. No condition. -/
import Derived.Test.YtpgfhkbnngjegaaGreatDoorU5
import Derived.Test.YtpgfhkbnngjegaaGreatDoorU5
import Derived.Test.YtpgfhkbnngjegaaGreatDoorU19
namespace Go.Proofs.YtpgfhkbnngjegaaGreatDoor
open Go.RowKit
set_option linter.unusedVariables false
set_option linter.unusedSimpArgs false
theorem zqS {p : Prop} (h : p:=by simp_all; done) : p:=h
theorem zqT {p : Prop} [Decidable p] (h : p:=by omega) : decide p = true:=decide_eq_true h
theorem zqF {p : Prop} [Decidable p] (h : ¬ p:=by omega) : decide p = false:=decide_eq_false h
theorem zqR {p : Prop} (h : p:=by rintro _ ⟨⟩) : p:=h
theorem zqL : (∀ {α β : Type} (f : α→β) (l : List α),(l.map f).length = l.length)∧(∀ {α : Type} (a b : List α),(a ++ b).length = a.length + b.length)∧(∀ {α : Type} (n : Nat) (l : List α),(l.take n).length = min n l.length)∧(∀ {α : Type} (n : Nat) (l : List α),(l.drop n).length = l.length - n)∧(∀ {α : Type} (a : α) (l : List α),(a :: l).length = l.length + 1)∧(∀ {α : Type},([] : List α).length = 0):=⟨fun f l=>List.length_map f,fun a b=>List.length_append,fun n l=>List.length_take,fun n l=>List.length_drop,fun a l=>List.length_cons,List.length_nil⟩
theorem qx10 {p : Prop} (h : p:=by
 refine ⟨?_,?_,?_⟩
 ·refine leEnv_app (by kernel_rfl) (by kernel_rfl) ?_
  repeat ((conv=>whnf); first | exact True.intro | refine ⟨.rfl,?_⟩ | refine ⟨.any,?_⟩ | refine ⟨.nil,?_⟩ | refine ⟨.int (by first | rfl | omega | (simp only [wrs]; omega)),?_⟩)
 ·repeat (first | exact LeVs.nil | ((conv=>whnf); first | exact True.intro | exact .none | exact .ext | exact .row rfl | refine .cells ?_ | refine ⟨_,_,rfl,.rfl,?_⟩ | refine ⟨_,_,rfl,.any,?_⟩ | refine ⟨_,_,rfl,.nil,?_⟩ | refine ⟨_,_,rfl,.int (by first | rfl | omega | (simp only [wrs]; omega)),?_⟩ | refine ⟨?_,?_⟩))
  done
 ·exact LeFr.nil) : p:=h
theorem qx11 {p : Prop} (h : p:=by
 conv=>whnf
 refine ⟨ApOk.lit rfl,?_⟩
 conv=>whnf
 refine ⟨by simp [zqL]; omega,?_⟩
 conv=>whnf
 refine ⟨(k + 1),(by omega),(by omega),?_⟩
 refine ⟨?_,?_,?_⟩
 ·refine leEnv_app (by kernel_rfl) (by kernel_rfl) ?_
  repeat ((conv=>whnf); first | exact True.intro | refine ⟨.rfl,?_⟩ | refine ⟨.any,?_⟩ | refine ⟨.nil,?_⟩ | refine ⟨.int (by first | rfl | omega | (simp only [wrs]; omega)),?_⟩)
 ·repeat (first | exact LeVs.nil | ((conv=>whnf); first | exact True.intro | exact .none | exact .ext | exact .row rfl | exact .row ((by rw [up_row _ hy,List.map_append]; unfold upI; simp [by1]; omega)) | refine .cells ?_ | refine ⟨_,_,rfl,.rfl,?_⟩ | refine ⟨_,_,rfl,.any,?_⟩ | refine ⟨_,_,rfl,.nil,?_⟩ | refine ⟨_,_,rfl,.int (by first | rfl | omega | (simp only [wrs]; omega)),?_⟩ | refine ⟨?_,?_⟩))
  done
 ·exact LeFr.nil) : p:=h
theorem qx12 {p : Prop} (h : p:=by
 intro B w0
 conv=>whnf
 refine bS (fun hc1=>?_) (fun hc1=>?_)
 ·try simp only [bls] at hc1
  conv=>whnf
  refine bT zqT ?_
  conv=>whnf
  refine bT zqT ?_
  conv=>whnf
  refine FinG.mk none ?_ zqR
  simp only [outs,zqL]
  simp_all [isD]
 ·try simp only [bls] at hc1
  conv=>whnf
  refine bF zqF ?_
  conv=>whnf
  refine bF zqF ?_
  conv=>whnf
  refine FinG.mk none ?_ zqR
  simp only [outs,zqL]
  simp_all [isD]; omega) : p:=h
theorem qx13 {p : Prop} (h : p:=by
 conv=>whnf
 refine bF zqF ?_
 conv=>whnf
 refine bF zqF ?_
 conv=>whnf
 refine FinG.mk none ?_ zqR
 simp only [outs,zqL]
 simp_all [isL]; omega) : p:=h
theorem qx14 {p : Prop} (h : p:=by
 conv=>whnf
 refine bT zqT ?_
 conv=>whnf
 refine bT zqT ?_
 conv=>whnf
 refine bT zqT ?_
 conv=>whnf
 refine bT zqT ?_
 conv=>whnf
 refine bT (notT (by assumption)) ?_
 conv=>whnf
 refine bT zqT ?_
 conv=>whnf
 refine bT (notT (by assumption)) ?_
 conv=>whnf
 refine FinG.mk none ?_ zqR
 simp only [outs,zqL]
 rw [word_no hy (by assumption) (.inl (by omega))]) : p:=h
theorem qx15 {p : Prop} (h : p:=by
 try simp only [bls] at hc1
 conv=>whnf
 refine bF zqF ?_
 conv=>whnf
 refine bF zqF ?_
 conv=>whnf
 refine bF zqF ?_
 conv=>whnf
 refine bF zqF ?_
 conv=>whnf
 refine bF zqF ?_
 conv=>whnf
 refine FinG.mk none ?_ zqR
 simp only [outs,zqL]
 rw [endN_is ha (by omega) (fun c hc=>by have:=(List.getElem?_eq_some_iff.1 hc).1; omega)]) : p:=h
theorem qx16 {p : Prop} (h : p:=by
 conv=>whnf
 refine bT zqT ?_
 conv=>whnf
 refine bS (fun hc2=>?_) (fun hc2=>?_)
 ·try simp only [bls] at hc2
  conv=>whnf
  refine ⟨(k + 1),⟨by omega,allW_s ha hy (by assumption)⟩,(by omega),?_⟩
  exact qx10
 ·try simp only [bls] at hc2
  conv=>whnf
  refine FinG.mk none ?_ zqR
  simp only [outs,zqL]
  rw [endN_is ha (by omega) (fun c hc=>by rw [hc] at hy; cases hy; assumption)]) : p:=h
theorem qx17 {p : Prop} (h : p:=by
 conv=>whnf
 refine bF zqF ?_
 conv=>whnf
 refine bF zqF ?_
 conv=>whnf
 refine FinG.mk none ?_ zqR
 simp only [outs,zqL]
 rw [isL_or c h0 h1]
 simp_all; omega) : p:=h
theorem qx18 {p : Prop} (h : p:=by
 conv=>whnf
 refine bF (notF (by assumption)) ?_
 conv=>whnf
 refine bF (notF (by assumption)) ?_
 conv=>whnf
 refine bF (notF (by assumption)) ?_
 conv=>whnf
 refine bF (notF (by assumption)) ?_
 conv=>whnf
 refine ⟨(k + 1),⟨by omega,wordK_s hw hy (.inl (by assumption))⟩,(by omega),?_⟩
 exact qx10) : p:=h
theorem qx19 {p : Prop} (h : p:=by
 conv=>whnf
 refine bT zqT ?_
 conv=>whnf
 refine bT zqT ?_
 conv=>whnf
 refine FinG.mk none ?_ zqR
 simp only [outs,zqL]
 simp_all [isL]) : p:=h
theorem qx110 {p : Prop} (h : p:=by
 conv=>whnf
 refine FinG.mk none ?_ zqR
 simp only [outs,zqL]
 rw [word_no hy (by assumption) (.inr (by assumption))]) : p:=h
theorem qx111 {p : Prop} (h : p:=by
 conv=>whnf
 refine FinG.mk none ?_ zqR
 simp only [outs,zqL]
 rw [name_at hy]
 simp_all; omega) : p:=h
theorem qx112 {p : Prop} (h : p:=by
 conv=>whnf
 refine FinG.mk none ?_ zqR
 simp only [outs,zqL]
 simp_all [nameB]; done) : p:=h
theorem qx113 {p : Prop} (h : p:=by
 conv=>whnf
 refine FinG.mk none ?_ zqR
 simp only [outs,zqL]
 simp_all [isW]; done) : p:=h
theorem qx114 {p : Prop} (h : p:=by
 try simp only [bls] at hc2
 conv=>whnf
 refine ⟨(k + 1),⟨by omega,noS_s hn hy (by simp_all [bsEq])⟩,(by omega),?_⟩
 exact qx10) : p:=h
theorem qx115 {p : Prop} (h : p:=by
 conv=>whnf
 refine ⟨(k + 1),⟨by omega,wordK_s hw hy (.inr ⟨by omega,by assumption⟩)⟩,(by omega),?_⟩
 exact qx10) : p:=h
set_option maxRecDepth 20000
theorem notT {b : Bool} (h : b = false) : (!b) = true:=by rw [h]; rfl
theorem notF {b : Bool} (h : b = true) : (!b) = false:=by rw [h]; rfl
/-- Is it a letter, or _? -/
def isL (c : Int) : Bool:=(decide (97 ≤ c) && decide (c ≤ 122)) || (decide (65 ≤ c) && decide (c ≤ 90)) || decide (c = 95)
def isD (c : Int) : Bool:=decide (48 ≤ c) && decide (c ≤ 57)
def isW (c : Int) : Bool:=isL c || isD c
theorem isL_or (c : Int) (h0 : 0 ≤ c) (h1 : c < 256) : isL c = ((decide (97 ≤ IntKind.u8.wrap ↑(BitVec.ofInt IntKind.u8.bits c ||| BitVec.ofInt IntKind.u8.bits 32).toNat) && decide (IntKind.u8.wrap ↑(BitVec.ofInt IntKind.u8.bits c ||| BitVec.ofInt IntKind.u8.bits 32).toNat ≤ 122)) || decide (c = 95)):=by
  have key : ∀ n : Fin 256,isL (n.val : Int) = ((decide (97 ≤ IntKind.u8.wrap ↑(BitVec.ofInt IntKind.u8.bits (n.val : Int) ||| BitVec.ofInt IntKind.u8.bits 32).toNat) && decide (IntKind.u8.wrap ↑(BitVec.ofInt IntKind.u8.bits (n.val : Int) ||| BitVec.ofInt IntKind.u8.bits 32).toNat ≤ 122)) || decide ((n.val : Int) = 95)):=by decide +kernel
  have:=key ⟨c.toNat,by omega⟩
  have e : ((c.toNat : Nat) : Int) = c:=by omega
  simp only [e] at this
  exact this
set_option maxRecDepth 20000 in
theorem digit_X (c : Int) : XMeets Tryz.prog 167 [.v (.int .u8 c)] (.p (.v (.bool (isD c))) (nlv _)):=by
 refine XMeets.of_X tabX_ok (avs:=[.p (.v (.int .u8 c)) (nlv _)]) [(0,.p (.v (.int .u8 c)) (nlv _))] (by kernel_rfl) Tryz.func167 rfl (by simp [PuL,Pu]) (rfl) rfl rfl ?_
 exact qx12
set_option maxRecDepth 20000 in
theorem digit6_X (c : Int) : XMeets Tryz.prog 163 [.v (.int .u8 c)] (.p (.v (.bool (isD c))) (nlv _)):=by
 refine XMeets.of_X tabX_ok (avs:=[.p (.v (.int .u8 c)) (nlv _)]) [(0,.p (.v (.int .u8 c)) (nlv _))] (by kernel_rfl) Tryz.func163 rfl (by simp [PuL,Pu]) (rfl) rfl rfl ?_
 exact qx12
set_option maxRecDepth 20000 in
theorem letter6_X (c : Int) : XMeets Tryz.prog 162 [.v (.int .u8 c)] (.p (.v (.bool (isL c))) (nlv _)):=by
 refine XMeets.of_X tabX_ok (avs:=[.p (.v (.int .u8 c)) (nlv _)]) [(0,.p (.v (.int .u8 c)) (nlv _))] (by kernel_rfl) Tryz.func162 rfl (by simp [PuL,Pu]) (rfl) rfl rfl ?_
 intro B w0
 conv=>whnf
 refine bS (fun hc1=>?_) (fun hc1=>?_)
 ·try simp only [bls] at hc1
  conv=>whnf
  refine bT zqT ?_
  conv=>whnf
  refine bT zqT ?_
  conv=>whnf
  refine bS (fun hc2=>?_) (fun hc2=>?_)
  ·try simp only [bls] at hc2
   conv=>whnf
   refine bT zqT ?_
   conv=>whnf
   refine bT zqT ?_
   exact qx19
  ·try simp only [bls] at hc2
   conv=>whnf
   refine bF zqF ?_
   conv=>whnf
   refine bF zqF ?_
   conv=>whnf
   refine bT zqT ?_
   conv=>whnf
   refine bT zqT ?_
   conv=>whnf
   refine bF zqF ?_
   conv=>whnf
   refine bT zqT ?_
   conv=>whnf
   refine bF zqF ?_
   conv=>whnf
   refine bF zqF ?_
   exact qx13
 ·try simp only [bls] at hc1
  conv=>whnf
  refine bF zqF ?_
  conv=>whnf
  refine bF zqF ?_
  conv=>whnf
  refine bS (fun hc3=>?_) (fun hc3=>?_)
  ·try simp only [bls] at hc3
   conv=>whnf
   refine bT zqT ?_
   conv=>whnf
   refine bT zqT ?_
   conv=>whnf
   refine bS (fun hc4=>?_) (fun hc4=>?_)
   ·try simp only [bls] at hc4
    exact qx19
   ·try simp only [bls] at hc4
    exact qx13
  ·try simp only [bls] at hc3
   exact qx13
set_option maxRecDepth 20000 in
theorem letter_X (c : Int) (h0 : 0 ≤ c) (h1 : c < 256) : XMeets Tryz.prog 141 [.v (.int .u8 c)] (.p (.v (.bool (isL c))) (nlv _)):=by
 refine XMeets.of_X tabX_ok (avs:=[.p (.v (.int .u8 c)) (nlv _)]) [(0,.p (.v (.int .u8 c)) (nlv _))] (by kernel_rfl) Tryz.func141 rfl (by simp [PuL,Pu]) (rfl) rfl rfl ?_
 intro B w0
 conv=>whnf
 refine bS (fun hc1=>?_) (fun hc1=>?_)
 ·try simp only [bls] at hc1
  try simp (disch:=omega) only [wz,Int.reduceAdd,Int.reduceSub,Int.reduceMul,Int.reduceNeg,Int.zero_add,Int.add_zero,Int.sub_zero,Int.sub_self] at hc1
  conv=>whnf
  refine bT zqT ?_
  conv=>whnf
  refine bT zqT ?_
  conv=>whnf
  refine bT zqT ?_
  conv=>whnf
  refine bS (fun hc2=>?_) (fun hc2=>?_)
  ·try simp only [bls] at hc2
   try simp (disch:=omega) only [wz,Int.reduceAdd,Int.reduceSub,Int.reduceMul,Int.reduceNeg,Int.zero_add,Int.add_zero,Int.sub_zero,Int.sub_self] at hc2
   conv=>whnf
   refine bT zqT ?_
   conv=>whnf
   refine bT zqT ?_
   conv=>whnf
   refine FinG.mk none ?_ zqR
   simp only [outs,zqL]
   rw [isL_or c h0 h1]
   simp_all; done
  ·try simp only [bls] at hc2
   try simp (disch:=omega) only [wz,Int.reduceAdd,Int.reduceSub,Int.reduceMul,Int.reduceNeg,Int.zero_add,Int.add_zero,Int.sub_zero,Int.sub_self] at hc2
   exact qx17
 ·try simp only [bls] at hc1
  try simp (disch:=omega) only [wz,Int.reduceAdd,Int.reduceSub,Int.reduceMul,Int.reduceNeg,Int.zero_add,Int.add_zero,Int.sub_zero,Int.sub_self] at hc1
  conv=>whnf
  refine bF zqF ?_
  exact qx17
set_option maxRecDepth 20000 in
theorem lettered_X (c : Int) (h0 : 0 ≤ c) (h1 : c < 256) : XMeets Tryz.prog 143 [.v (.int .u8 c)] (.p (.v (.bool (isW c))) (nlv _)):=by
 refine XMeets.of_X tabX_ok (avs:=[.p (.v (.int .u8 c)) (nlv _)]) [(0,.p (.v (.int .u8 c)) (nlv _))] (by kernel_rfl) Tryz.func143 rfl (by simp [PuL,Pu]) (rfl) rfl rfl ?_
 intro B w0
 conv=>whnf
 refine .ct ?_
 conv=>whnf
 refine CallG.mk (letter_X _ (by omega) (by omega)) rfl ?_
 conv=>whnf
 refine bS (fun hc1=>?_) (fun hc1=>?_)
 ·try simp only [bls] at hc1
  conv=>whnf
  refine bT (by assumption) ?_
  conv=>whnf
  refine bT (by assumption) ?_
  exact qx113
 ·try simp only [bls] at hc1
  conv=>whnf
  refine bF (by assumption) ?_
  conv=>whnf
  refine .ct ?_
  conv=>whnf
  refine CallG.mk (digit_X _) rfl ?_
  conv=>whnf
  refine bF (by assumption) ?_
  exact qx113
/-- How many bytes are so, from the first on. -/
def endN (p : Int→Bool) (l : List UInt8) : Nat:=(l.takeWhile fun c=>p (c.toNat : Int)).length
def allW (p : Int→Bool) (l : List UInt8) (k : Nat) : Prop:=∀ j c,j < k→l[j]? = some c→p (c.toNat : Int) = true
theorem allW_0 (p : Int→Bool) (l : List UInt8) : allW p l 0:=fun j c hj=>by omega
theorem allW_s {p : Int→Bool} {l : List UInt8} {k : Nat} {c : UInt8} (h : allW p l k) (hc : l[k]? = some c) (hp : p (c.toNat : Int) = true) : allW p l (k + 1):=fun j d hj hd=>by
  rcases Nat.lt_or_ge j k with h1 | h1
  · exact h j d h1 hd
  · obtain rfl : j = k:=by omega
    rw [hc] at hd; injection hd with hd; subst hd; exact hp
theorem endN_is {p : Int→Bool} : ∀ {l : List UInt8} {k : Nat},allW p l k→k ≤ l.length→(∀ c,l[k]? = some c→p (c.toNat : Int) = false)→endN p l = k
  | [],k,_,hk,_=>by simp at hk; subst hk; rfl
  | a :: l,0,h,_,hn=>by
    have:=hn a rfl
    unfold endN
    rw [List.takeWhile_cons_of_neg (by simp [this])]; rfl
  | a :: l,k + 1,h,hk,hn=>by
    have h0:=h 0 a (by omega) rfl
    have:=endN_is (l:=l) (k:=k) (fun j c hj hc=>h (j + 1) c (by omega) (by simpa using hc)) (by simpa using hk) (fun c hc=>hn c (by simpa using hc))
    unfold endN at this ⊢
    rw [List.takeWhile_cons_of_pos (by simp [h0]),List.length_cons,this]
theorem bs_len (s : ByteArray) : (bs s).length = s.size:=Array.length_toList
theorem str_ex {s : ByteArray} {m : Int} {Q : Nat→UInt8→Prop} (k : Nat) (hm : m = (k : Int)) (hk : k < s.size) (h : ∀ y,(bs s)[k]? = some y→0 ≤ (y.toNat : Int)→(y.toNat : Int) < 256→Q k y) : ∃ (j : Nat) (c : UInt8),s[j]? = some c∧m = (j : Int)∧Q j c:=by
  have h1 : (bs s)[k]? = some s[k]:=by
    rw [List.getElem?_eq_getElem (by rw [bs_len]; exact hk)]
    rfl
  refine ⟨k,s[k],getElem?_pos s k hk,hm,h _ h1 (by omega) ?_⟩
  have:=(s[k]).toNat_lt
  omega
theorem str_ex2 {s : ByteArray} {m : Int} {Q : Nat→UInt8→Prop} {k : Nat} {y : UInt8} (hy : (bs s)[k]? = some y) (hm : m = (k : Int)) (h : Q k y) : ∃ (j : Nat) (c : UInt8),s[j]? = some c∧m = (j : Int)∧Q j c:=by
  have h1:=(List.getElem?_eq_some_iff.1 hy)
  obtain ⟨hk,he⟩:=h1
  rw [bs_len] at hk
  refine ⟨k,y,?_,hm,h⟩
  rw [getElem?_pos s k hk]
  exact congrArg some he
set_option maxRecDepth 20000 in
theorem endL_X (s : ByteArray) (hs : s.size ≤ 140737488355328) : XMeets Tryz.prog 142 [.v (.string s),.fn (.func 141) []] (.p (.v (.int .i64 ((endN isL (bs s) : Int)))) (nlv _)):=by
 refine XMeets.of_X tabX_ok (avs:=[.p (.v (.string s)) (nlv _),.fu (.func 141) []]) [(0,.p (.v (.string s)) (nlv _)),(1,.fu (.func 141) [])] (by kernel_rfl) Tryz.func142 rfl (by simp [PuL,Pu]) (rfl) rfl rfl ?_
 intro B w0
 have hsl:=bs_len s
 conv=>whnf
 refine XT.loop tabX_ok (Y:=Nat) [5,6,7,8,9,10,11,12,13,14,15,16,17,18] (fun k=>[(5,.p (.v (.int .i64 ((k : Int)))) (nlv _))]) (fun k=>[]) (fun k=>k ≤ (bs s).length∧allW isL (bs s) k) (fun k=>(bs s).length - k) 0 ⟨Nat.zero_le _,allW_0 _ _⟩ ?_ ?_
 ·exact qx10
 ·rintro k ⟨hk,ha⟩
  conv=>whnf
  refine bS (fun hc1=>?_) (fun hc1=>?_)
  ·try simp only [bls] at hc1
   conv=>whnf
   refine bT zqT ?_
   conv=>whnf
   refine bT zqT ?_
   conv=>whnf
   refine bT zqT ?_
   conv=>whnf
   refine str_ex k rfl (by omega) ?_; intro y hy hy0 hy1
   conv=>whnf
   refine bT zqT ?_
   conv=>whnf
   refine .ct ?_
   conv=>whnf
   refine CallG.mk (letter_X _ (by omega) (by omega)) rfl ?_
   exact qx16
  ·exact qx15
set_option maxRecDepth 20000 in
theorem keys_X  : XMeets Tryz.prog 166 [] (.ow 9 1 (keysL.map st1) (nl_st _)):=by
 refine XMeets.of_XM [(2,.row 0)] tabX_ok (avs:=[]) [] (by kernel_rfl) Tryz.func166 rfl (by simp [PuL,Pu]) (rfl) rfl rfl ?_
 intro B w0
 conv=>whnf
 refine XT.openA 1 0 (keysL.map fun s=>.v (.string s)) (NlL.of_all fun t ht=>by obtain ⟨s,_,rfl⟩:=List.mem_map.1 ht; exact nlv _) rfl rfl rfl rfl ?_
 conv=>whnf
 refine XT.pass tabX_ok ?_
 conv=>whnf
 refine .ct ?_
 conv=>whnf
 refine .cl (els:=keysL.map st1) (nl_st _) clone_str rfl (st_len _) (st_one _) (by simp [keysL]) ?_
 conv=>whnf
 refine FinG.mk (some 0) ?_ (by rintro _ ⟨⟩; trivial)
 simp only [outs,zqL]
 exact fr_st _
/-- Is a text among texts? -/
def inK (zs : List ByteArray) (x : ByteArray) : Bool:=zs.any fun z=>bsEq x z
def ixS (zs : List ByteArray) (x : ByteArray) : Int:=match zs.findIdx? fun z=>bsEq x z with
  | some i=>(i : Int)
  | none=>-1
def noS (zs : List ByteArray) (x : ByteArray) (k : Nat) : Prop:=∀ j z,j < k→zs[j]? = some z→bsEq x z = false
theorem noS_0 (zs : List ByteArray) (x : ByteArray) : noS zs x 0:=fun j z hj=>by omega
theorem noS_s {zs : List ByteArray} {x : ByteArray} {k : Nat} {y : ByteArray} (h : noS zs x k) (hy : zs[k]? = some y) (hn : bsEq x y = false) : noS zs x (k + 1):=fun j z hj hz=>by
  rcases Nat.lt_or_ge j k with h1 | h1
  · exact h j z h1 hz
  · obtain rfl : j = k:=by omega
    rw [hy] at hz; injection hz with hz; subst hz; exact hn
theorem ixS_no {zs : List ByteArray} {x : ByteArray} {k : Nat} (h : noS zs x k) (hk : zs.length ≤ k) : ixS zs x = -1∧inK zs x = false:=by
  have hall : ∀ z ∈ zs,bsEq x z = false:=fun z hz=>by
    obtain ⟨j,hj,rfl⟩:=List.getElem_of_mem hz
    exact h j _ (by omega) (List.getElem?_eq_getElem hj)
  refine ⟨?_,?_⟩
  · unfold ixS
    rw [List.findIdx?_eq_none_iff.2 hall]
  · unfold inK
    rw [List.any_eq_false]
    intro z hz; simp [hall z hz]
theorem ixS_at {zs : List ByteArray} {x : ByteArray} {k : Nat} {y : ByteArray} (h : noS zs x k) (hy : zs[k]? = some y) (he : bsEq x y = true) : ixS zs x = (k : Int)∧inK zs x = true:=by
  obtain ⟨hk,rfl⟩:=List.getElem?_eq_some_iff.1 hy
  refine ⟨?_,?_⟩
  · unfold ixS
    rw [show (zs.findIdx? fun z=>bsEq x z) = some k from List.findIdx?_eq_some_iff_getElem.2 ⟨hk,he,fun j hj=>by simp [h j _ hj (List.getElem?_eq_getElem (by omega))]⟩]
  · unfold inK
    rw [List.any_eq_true]
    exact ⟨_,List.getElem_mem hk,he⟩
theorem ixS_in (zs : List ByteArray) (x : ByteArray) : decide (0 ≤ ixS zs x) = inK zs x:=by
  unfold ixS inK
  cases h : zs.findIdx? fun z=>bsEq x z with
  | none=>
    rw [List.findIdx?_eq_none_iff] at h
    have : (zs.any fun z=>bsEq x z) = false:=by rw [List.any_eq_false]; intro z hz; simp [h z hz]
    rw [this]; rfl
  | some i=>
    obtain ⟨hi,he,_⟩:=List.findIdx?_eq_some_iff_getElem.1 h
    have : (zs.any fun z=>bsEq x z) = true:=by rw [List.any_eq_true]; exact ⟨_,List.getElem_mem hi,he⟩
    rw [this]; simp
set_option maxRecDepth 20000 in
theorem index_X (b : Bool) (zs : List ByteArray) (x : ByteArray) (hz : zs.length ≤ 100000) : XMeets Tryz.prog 192 [.sl b (zs.map st1),.v (.string x)] (.p (.v (.int .i64 (ixS zs x))) (nlv _)):=by
 refine XMeets.of_X tabX_ok (avs:=[.p (.sl false (zs.map st1)) (nl_st _).sl,.p (.v (.string x)) (nlv _)]) [(0,.p (.sl false (zs.map st1)) (nl_st _).sl),(1,.p (.v (.string x)) (nlv _))] (by kernel_rfl) Tryz.func192 rfl (by simp [PuL,Pu,st1,pu_st]) (by simp only [untagL,untag,untag_st]; rfl) rfl rfl ?_
 intro B w0
 conv=>whnf
 refine XT.loop tabX_ok (Y:=Nat) [4,5,8,9,10,11,12,13,14,15,16,17,18] (fun k=>[(8,.p (.v (.int .i64 ((k : Int)))) (nlv _))]) (fun k=>[]) (fun k=>k ≤ zs.length∧noS zs x k) (fun k=>zs.length - k) 0 ⟨Nat.zero_le _,noS_0 _ _⟩ ?_ ?_
 ·exact qx10
 ·rintro k ⟨hk,hn⟩
  conv=>whnf
  refine bS (fun hc1=>?_) (fun hc1=>?_)
  ·try simp only [bls] at hc1
   conv=>whnf
   refine IdxG.map _ rfl (by first | omega | (simp only [List.length_map] at *; omega)) ?_; intro y hy hny
   conv=>whnf
   refine ⟨rfl,?_⟩
   conv=>whnf
   refine bS (fun hc2=>?_) (fun hc2=>?_)
   ·try simp only [bls] at hc2
    conv=>whnf
    refine FinG.mk none ?_ zqR
    simp only [outs,zqL]
    rw [(ixS_at hn hy (by simp_all [bsEq])).1]
   ·exact qx114
  ·try simp only [bls] at hc1
   conv=>whnf
   refine FinG.mk none ?_ zqR
   simp only [outs,zqL]
   rw [(ixS_no hn (by omega)).1]
set_option maxRecDepth 20000 in
theorem contains_X (b : Bool) (zs : List ByteArray) (x : ByteArray) (hz : zs.length ≤ 100000) : XMeets Tryz.prog 165 [.sl b (zs.map st1),.v (.string x)] (.p (.v (.bool (inK zs x))) (nlv _)):=by
 refine XMeets.of_X tabX_ok (avs:=[.p (.sl false (zs.map st1)) (nl_st _).sl,.p (.v (.string x)) (nlv _)]) [(0,.p (.sl false (zs.map st1)) (nl_st _).sl),(1,.p (.v (.string x)) (nlv _))] (by kernel_rfl) Tryz.func165 rfl (by simp [PuL,Pu,st1,pu_st]) (by simp only [untagL,untag,untag_st]; rfl) rfl rfl ?_
 intro B w0
 conv=>whnf
 refine .ct ?_
 conv=>whnf
 refine CallG.mk (index_X _ _ _ (by first | assumption | omega)) rfl ?_
 conv=>whnf
 refine FinG.mk none ?_ zqR
 simp only [outs,zqL]
 rw [← ixS_in]
def upS (s : ByteArray) : ByteArray:=⟨(Lib.toUpperA (bs s)).toArray⟩
/-- A word that is kept, in capitals. -/
def keyN (s : ByteArray) : ByteArray × Bool:=if inK keysL (upS s) = true then (upS s,true) else (⟨#[]⟩,false)
set_option maxRecDepth 20000 in
theorem keys6_X  : XMeets Tryz.prog 160 [] (.ow 9 1 (keysL.map st1) (nl_st _)):=by
 refine XMeets.of_X tabX_ok (avs:=[]) [] (by kernel_rfl) Tryz.func160 rfl (by simp [PuL,Pu]) (rfl) rfl rfl ?_
 intro B w0
 conv=>whnf
 refine FinG.mk (some 0) ?_ (by rintro _ ⟨⟩; trivial)
 simp only [outs,zqL]
 exact ⟨rfl,fr_st _⟩
/-- A byte in capitals, as a number. -/
def upI (c : Int) : Int:=if 97 ≤ c∧c ≤ 122 then c - 32 else c
theorem nl_by1 (l : List Int) : NlLL (l.map by1):=nl_b1 l
theorem fr_by1 (l : List Int) : FrLL (l.map by1):=FrLL_map _ _ fun x _=>by simp [by1,FrL,Fr]
theorem numS_at {s : ByteArray} {k : Nat} {y : Int} (h : (numS s)[k]? = some y) : 0 ≤ y∧y < 256:=by
  unfold numS at h
  rw [List.getElem?_map] at h
  obtain ⟨c,_,rfl⟩:=Option.map_eq_some_iff.1 h
  have:=c.toNat_lt
  omega
theorem upI_B (c : UInt8) : upI (c.toNat : Int) = ((Lib.upperB c).toNat : Int):=by
  unfold upI Lib.upperB Lib.isLowerB
  have key : ∀ n : Fin 256,(if 97 ≤ (n.val : Int)∧(n.val : Int) ≤ 122 then (n.val : Int) - 32 else (n.val : Int)) = ((if Lib.isLowerB (UInt8.ofNat n.val) then UInt8.ofNat n.val - 32 else UInt8.ofNat n.val).toNat : Int):=by decide +kernel
  have:=key ⟨c.toNat,c.toNat_lt⟩
  simpa [Lib.isLowerB] using this
theorem up_row (l : List Int) {k : Nat} {y : Int} (h : l[k]? = some y) : ((l.take (k + 1)).map upI) = ((l.take k).map upI) ++ [upI y]:=by
  obtain ⟨hk,rfl⟩:=List.getElem?_eq_some_iff.1 h
  rw [List.take_succ_eq_append_getElem hk,List.map_append]; rfl
theorem up_end (s : ByteArray) {k : Nat} (hk : (numS s).length ≤ k) : strOfNums (((numS s).take k).map upI) = upS s:=by
  rw [List.take_of_length_le hk]
  unfold strOfNums upS Lib.toUpperA numS
  congr 1
  rw [List.map_map,List.map_map]
  congr 1
  refine List.map_congr_left fun c _=>?_
  simp only [Function.comp,upI_B]
  simp
set_option maxRecDepth 20000 in
theorem capitals_X (s : ByteArray) (hs : s.size ≤ 140737488355328) : XMeets Tryz.prog 161 [.v (.string s)] (.p (.v (.string (upS s))) (nlv _)):=by
 refine XMeets.of_X tabX_ok (avs:=[.p (.v (.string s)) (nlv _)]) [(0,.p (.v (.string s)) (nlv _))] (by kernel_rfl) Tryz.func161 rfl (by simp [PuL,Pu]) (rfl) rfl rfl ?_
 intro B w0
 have hnl:=numS_len s
 conv=>whnf
 refine ⟨by omega,?_⟩
 conv=>whnf
 refine XT.nilr 3 5 1 rfl rfl ?_
 conv=>whnf
 refine XT.loop tabX_ok (Y:=Nat) [3,5,9,10,11,12,13,14,15,16,17,18,19,20,21,22,23,24,25] (fun k=>[(9,.p (.v (.int .i64 ((k : Int)))) (nlv _)),(3,.row 0)]) (fun k=>[(0,.row 5 1 ((((numS s).take k).map upI).map by1) (nl_by1 _))]) (fun k=>k ≤ (numS s).length) (fun k=>(numS s).length - k) 0 (Nat.zero_le _) ?_ ?_
 ·exact qx10
 ·rintro k hk
  conv=>whnf
  refine bS (fun hc1=>?_) (fun hc1=>?_)
  ·try simp only [bls] at hc1
   conv=>whnf
   refine IdxG.map _ rfl (by first | omega | (simp only [List.length_map] at *; omega)) ?_; intro y hy hny; have hy0:=numS_at hy
   conv=>whnf
   refine ⟨rfl,?_⟩
   conv=>whnf
   refine bS (fun hc2=>?_) (fun hc2=>?_)
   ·try simp only [bls] at hc2
    conv=>whnf
    refine bT zqT ?_
    conv=>whnf
    refine bT zqT ?_
    conv=>whnf
    refine bS (fun hc3=>?_) (fun hc3=>?_)
    ·try simp only [bls] at hc3
     conv=>whnf
     rw [show IntKind.u8.wrap (y - 32) = (y - 32) from wz.2.2.1 _ (by omega) (by omega)]
     conv=>whnf
     refine ⟨ApOk.lit rfl,?_⟩
     conv=>whnf
     refine ⟨by simp [zqL]; omega,?_⟩
     conv=>whnf
     refine ⟨(k + 1),(by omega),(by omega),?_⟩
     refine ⟨?_,?_,?_⟩
     ·refine leEnv_app (by kernel_rfl) (by kernel_rfl) ?_
      repeat ((conv=>whnf); first | exact True.intro | refine ⟨.rfl,?_⟩ | refine ⟨.any,?_⟩ | refine ⟨.nil,?_⟩ | refine ⟨.int (by first | rfl | omega | (simp only [wrs]; omega)),?_⟩)
     ·repeat (first | exact LeVs.nil | ((conv=>whnf); first | exact True.intro | exact .none | exact .ext | exact .row rfl | exact .row ((by rw [up_row _ hy,List.map_append]; simp [upI,by1, *]; done)) | refine .cells ?_ | refine ⟨_,_,rfl,.rfl,?_⟩ | refine ⟨_,_,rfl,.any,?_⟩ | refine ⟨_,_,rfl,.nil,?_⟩ | refine ⟨_,_,rfl,.int (by first | rfl | omega | (simp only [wrs]; omega)),?_⟩ | refine ⟨?_,?_⟩))
      done
     ·exact LeFr.nil
    ·try simp only [bls] at hc3
     exact qx11
   ·try simp only [bls] at hc2
    conv=>whnf
    refine bF zqF ?_
    conv=>whnf
    refine bF zqF ?_
    exact qx11
  ·try simp only [bls] at hc1
   conv=>whnf
   refine ⟨_,rfl,?_⟩
   conv=>whnf
   refine FinG.mk none ?_ zqR
   simp only [outs,zqL]
   rw [up_end s (by omega)]
theorem endN_all {p : Int→Bool} : ∀ {l : List UInt8},l.length ≤ endN p l→∀ c ∈ l,p (c.toNat : Int) = true
  | [],_,c,hc=>by simp at hc
  | a :: l,h,c,hc=>by
    unfold endN at h
    cases hp : p (a.toNat : Int) with
    | false=>rw [List.takeWhile_cons_of_neg (by simp [hp])] at h; simp at h
    | true=>
      rw [List.takeWhile_cons_of_pos (by simp [hp])] at h
      simp only [List.length_cons] at h
      rcases List.mem_cons.1 hc with rfl | hc
      · exact hp
      · exact endN_all (l:=l) (by unfold endN; omega) c hc
theorem endN_of {p : Int→Bool} : ∀ {l : List UInt8},(∀ c ∈ l,p (c.toNat : Int) = true)→endN p l = l.length
  | [],_=>rfl
  | a :: l,h=>by
    have:=endN_of (p:=p) (l:=l) fun c hc=>h c (by simp [hc])
    unfold endN at this ⊢
    rw [List.takeWhile_cons_of_pos (by simp [h a (by simp)]),List.length_cons,this,List.length_cons]
theorem isL_asc {c : UInt8} (h : isL (c.toNat : Int) = true) : c.toNat < 128:=by
  simp only [isL,Bool.or_eq_true,Bool.and_eq_true,decide_eq_true_eq] at h
  omega
theorem keys_cap : ∀ k ∈ keysL,∀ b ∈ bs k,65 ≤ b.toNat∧b.toNat ≤ 90:=by decide +kernel
theorem cap_L (c : UInt8) (h : 65 ≤ (Lib.upperB c).toNat∧(Lib.upperB c).toNat ≤ 90) : isL (c.toNat : Int) = true:=by
  have h1:=upI_B c
  have h2:=c.toNat_lt
  unfold upI at h1
  simp only [isL,Bool.or_eq_true,Bool.and_eq_true,decide_eq_true_eq]
  split at h1 <;> omega
theorem bs_upS (s : ByteArray) : bs (upS s) = (bs s).map Lib.upperB:=by unfold upS bs Lib.toUpperA; simp
theorem key_no {s : ByteArray} (h : ¬ (bs s).length ≤ endN isL (bs s)) : inK keysL (upS s) = false:=by
  cases hk : inK keysL (upS s) with
  | false=>rfl
  | true=>
    unfold inK at hk
    rw [List.any_eq_true] at hk
    obtain ⟨k,hm,he⟩:=hk
    have he:=(bsEq_t _ _).mp he
    refine absurd ?_ h
    rw [endN_of (p:=isL) fun c hc=>?_]
    · exact Nat.le_refl _
    · refine cap_L c ?_
      refine keys_cap k hm _ ?_
      rw [← he,bs_upS]
      exact List.mem_map_of_mem hc
theorem keyN_no {s : ByteArray} (h : inK keysL (upS s) = false) : keyN s = (⟨#[]⟩,false):=by unfold keyN; rw [if_neg (by simp [h])]
theorem keyN_yes {s : ByteArray} (h : inK keysL (upS s) = true) : keyN s = (upS s,true):=by unfold keyN; rw [if_pos h]
set_option maxRecDepth 20000 in
theorem key_X (s : ByteArray) (hs : s.size ≤ 140737488355328) : XMeets Tryz.prog 140 [.v (.string s)] (.tu [.p (.v (.string ((keyN s).1))) (nlv _),.p (.v (.bool ((keyN s).2))) (nlv _)]):=by
 refine XMeets.of_X tabX_ok (avs:=[.p (.v (.string s)) (nlv _)]) [(0,.p (.v (.string s)) (nlv _))] (by kernel_rfl) Tryz.func140 rfl (by simp [PuL,Pu]) (rfl) rfl rfl ?_
 intro B w0
 have hsl:=bs_len s
 conv=>whnf
 refine .ct ?_
 conv=>whnf
 refine CallG.mk (endL_X s hs) rfl ?_
 conv=>whnf
 refine bS (fun hc1=>?_) (fun hc1=>?_)
 ·try simp only [bls] at hc1
  conv=>whnf
  refine FinG.mk none ?_ zqR
  simp only [outs,zqL]
  rw [keyN_no (key_no (by omega))]
  exact ⟨rfl,rfl⟩
 ·try simp only [bls] at hc1
  conv=>whnf
  refine .ct ?_
  conv=>whnf
  refine CallG.mk (upper_X s hs (fun b hb=>isL_asc (endN_all (p:=isL) (by omega) b hb))) rfl ?_
  conv=>whnf
  refine .ct ?_
  conv=>whnf
  refine CallG.mk (keys_X) rfl ?_
  conv=>whnf
  refine .ct ?_
  conv=>whnf
  refine CallG.mk (contains_X _ _ _ (by first | assumption | omega | (simp [keysL]; done))) rfl ?_
  conv=>whnf
  refine bS (fun hc2=>?_) (fun hc2=>?_)
  ·try simp only [bls] at hc2
   conv=>whnf
   refine FinG.mk none ?_ zqR
   simp only [outs,zqL]
   rw [keyN_no (by simp_all [upS])]
   exact ⟨rfl,rfl⟩
  ·try simp only [bls] at hc2
   conv=>whnf
   refine FinG.mk none ?_ zqR
   simp only [outs,zqL]
   rw [keyN_yes (by simp_all [upS])]
   exact ⟨rfl,rfl⟩
theorem bs_ext {a b : ByteArray} (h : bs a = bs b) : a = b:=by
  cases a; cases b
  simp only [bs] at h
  congr 1
  exact Array.ext' h
theorem keyN_at {s : ByteArray} {k : Nat} {y : ByteArray} (h : noS keysL (upS s) k) (hy : keysL[k]? = some y) (he : bsEq (upS s) y = true) : keyN s = (y,true):=by
  have h1:=bs_ext ((bsEq_t _ _).mp he)
  rw [keyN_yes (ixS_at h hy he).2,h1]
theorem keys_len : keysL.length = 35:=rfl
set_option maxRecDepth 20000 in
theorem key6_X (s : ByteArray) (hs : s.size ≤ 140737488355328) : XMeets Tryz.prog 138 [.v (.string s)] (.tu [.p (.v (.string ((keyN s).1))) (nlv _),.p (.v (.bool ((keyN s).2))) (nlv _)]):=by
 refine XMeets.of_X tabX_ok (avs:=[.p (.v (.string s)) (nlv _)]) [(0,.p (.v (.string s)) (nlv _))] (by kernel_rfl) Tryz.func138 rfl (by simp [PuL,Pu]) (rfl) rfl rfl ?_
 intro B w0
 have hkl:=keys_len
 conv=>whnf
 refine .ct ?_
 conv=>whnf
 refine CallG.mk (keys6_X) rfl ?_
 conv=>whnf
 refine XT.loop tabX_ok (Y:=Nat) [2,3,5,8,9,10,11,12,13,14,15,16,17] (fun k=>[(8,.p (.v (.int .i64 ((k : Int)))) (nlv _))]) (fun k=>[]) (fun k=>k ≤ keysL.length∧noS keysL (upS s) k) (fun k=>keysL.length - k) 0 ⟨Nat.zero_le _,noS_0 _ _⟩ ?_ ?_
 ·exact qx10
 ·rintro k ⟨hk,hn⟩
  conv=>whnf
  refine bS (fun hc1=>?_) (fun hc1=>?_)
  ·try simp only [bls] at hc1
   conv=>whnf
   refine ⟨_,rfl,?_⟩
   conv=>whnf
   refine ⟨by simp only [bls]; omega,?_⟩
   conv=>whnf
   refine IdxG.map _ rfl (by first | omega | (simp only [List.length_map] at *; omega)) ?_; intro y hy hny
   conv=>whnf
   refine .ct ?_
   conv=>whnf
   refine CallG.mk (capitals_X _ (by first | assumption | omega)) rfl ?_
   conv=>whnf
   refine bS (fun hc2=>?_) (fun hc2=>?_)
   ·try simp only [bls] at hc2
    conv=>whnf
    refine FinG.mk none ?_ zqR
    simp only [outs,zqL]
    rw [keyN_at hn hy (by simp_all [bsEq])]
    exact ⟨rfl,rfl⟩
   ·exact qx114
  ·try simp only [bls] at hc1
   conv=>whnf
   refine FinG.mk none ?_ zqR
   simp only [outs,zqL]
   rw [keyN_no (ixS_no hn (by omega)).2]
   exact ⟨rfl,rfl⟩
/-- Is a text a word? -/
def wordB (s : ByteArray) : Bool:=match bs s with
  | []=>false
  | a :: l=>isL (a.toNat : Int) && decide (endN isW (a :: l) = (a :: l).length)
def nameB (s : ByteArray) : Bool:=wordB s && !(keyN s).2 && decide (s.size ≤ 24)
set_option maxRecDepth 20000 in
theorem endW_X (s : ByteArray) (hs : s.size ≤ 140737488355328) : XMeets Tryz.prog 142 [.v (.string s),.fn (.func 143) []] (.p (.v (.int .i64 ((endN isW (bs s) : Int)))) (nlv _)):=by
 refine XMeets.of_X tabX_ok (avs:=[.p (.v (.string s)) (nlv _),.fu (.func 143) []]) [(0,.p (.v (.string s)) (nlv _)),(1,.fu (.func 143) [])] (by kernel_rfl) Tryz.func142 rfl (by simp [PuL,Pu]) (rfl) rfl rfl ?_
 intro B w0
 have hsl:=bs_len s
 conv=>whnf
 refine XT.loop tabX_ok (Y:=Nat) [5,6,7,8,9,10,11,12,13,14,15,16,17,18] (fun k=>[(5,.p (.v (.int .i64 ((k : Int)))) (nlv _))]) (fun k=>[]) (fun k=>k ≤ (bs s).length∧allW isW (bs s) k) (fun k=>(bs s).length - k) 0 ⟨Nat.zero_le _,allW_0 _ _⟩ ?_ ?_
 ·exact qx10
 ·rintro k ⟨hk,ha⟩
  conv=>whnf
  refine bS (fun hc1=>?_) (fun hc1=>?_)
  ·try simp only [bls] at hc1
   conv=>whnf
   refine bT zqT ?_
   conv=>whnf
   refine bT zqT ?_
   conv=>whnf
   refine bT zqT ?_
   conv=>whnf
   refine str_ex k rfl (by omega) ?_; intro y hy hy0 hy1
   conv=>whnf
   refine bT zqT ?_
   conv=>whnf
   refine .ct ?_
   conv=>whnf
   refine CallG.mk (lettered_X _ (by omega) (by omega)) rfl ?_
   exact qx16
  ·exact qx15
theorem bsEq_n (s : ByteArray) : bsEq s ⟨#[]⟩ = decide (bs s = []):=by
  unfold bsEq
  rw [show bs ⟨#[]⟩ = ([] : List UInt8) from rfl]
  cases bs s <;> simp
theorem name_nil {s : ByteArray} (h : bs s = []) : nameB s = false:=by simp [nameB,wordB,h]
theorem name_long {s : ByteArray} (h : 24 < s.size) : nameB s = false:=by unfold nameB; rw [decide_eq_false (by omega)]; simp
theorem name_at {s : ByteArray} {y : UInt8} (hy : (bs s)[0]? = some y) : nameB s = (decide (s.size ≤ 24) && isL (y.toNat : Int) && decide (endN isW (bs s) = (bs s).length) && !(keyN s).2):=by
  unfold nameB wordB
  cases h : bs s with
  | nil=>rw [h] at hy; simp at hy
  | cons a l=>
    rw [h] at hy
    simp at hy
    subst hy
    simp only
    cases isL (a.toNat : Int) <;> cases decide (endN isW (a :: l) = (a :: l).length) <;> cases (keyN s).2 <;> simp
set_option maxRecDepth 20000 in
theorem name_X (s : ByteArray) (hs : s.size ≤ 140737488355328) : XMeets Tryz.prog 103 [.v (.string s)] (.p (.v (.bool (nameB s))) (nlv _)):=by
 refine XMeets.of_X tabX_ok (avs:=[.p (.v (.string s)) (nlv _)]) [(0,.p (.v (.string s)) (nlv _))] (by kernel_rfl) Tryz.func103 rfl (by simp [PuL,Pu]) (rfl) rfl rfl ?_
 intro B w0
 have hsl:=bs_len s
 by_cases hne : bs s = []
 ·conv=>whnf
  refine .ct ?_
  conv=>whnf
  refine CallG.mk (key_X _ (by first | assumption | omega)) rfl ?_
  conv=>whnf
  refine bF (by simp [bsEq_n,hne]; done) ?_
  conv=>whnf
  refine bF (by simp [bsEq_n,hne]; done) ?_
  conv=>whnf
  refine bF (by simp [bsEq_n,hne]; done) ?_
  conv=>whnf
  refine bF (by simp [bsEq_n,hne]; done) ?_
  conv=>whnf
  refine FinG.mk none ?_ zqR
  simp only [outs,zqL]
  rw [name_nil hne]
 ·have hpos : 0 < (bs s).length:=List.length_pos_iff.2 hne
  conv=>whnf
  refine .ct ?_
  conv=>whnf
  refine CallG.mk (key_X _ (by first | assumption | omega)) rfl ?_
  conv=>whnf
  refine bT (by simp [bsEq_n,hne]; done) ?_
  conv=>whnf
  refine bT (by simp [bsEq_n,hne]; done) ?_
  conv=>whnf
  refine bT (by simp [bsEq_n,hne]; done) ?_
  conv=>whnf
  refine bT (by simp [bsEq_n,hne]; done) ?_
  conv=>whnf
  refine bS (fun hc1=>?_) (fun hc1=>?_)
  ·try simp only [bls] at hc1
   conv=>whnf
   refine bT zqT ?_
   conv=>whnf
   refine str_ex 0 rfl (by omega) ?_; intro y hy hy0 hy1
   conv=>whnf
   refine bT zqT ?_
   conv=>whnf
   refine .ct ?_
   conv=>whnf
   refine CallG.mk (letter_X _ (by omega) (by omega)) rfl ?_
   conv=>whnf
   refine bT zqT ?_
   conv=>whnf
   refine bS (fun hc2=>?_) (fun hc2=>?_)
   ·try simp only [bls] at hc2
    conv=>whnf
    refine bT (by assumption) ?_
    conv=>whnf
    refine .ct ?_
    conv=>whnf
    refine CallG.mk (endW_X s hs) rfl ?_
    conv=>whnf
    refine bT (by assumption) ?_
    conv=>whnf
    refine bT (by assumption) ?_
    conv=>whnf
    refine bT (by assumption) ?_
    conv=>whnf
    refine bT (by assumption) ?_
    conv=>whnf
    refine bS (fun hc3=>?_) (fun hc3=>?_)
    ·try simp only [bls] at hc3
     conv=>whnf
     refine bT zqT ?_
     conv=>whnf
     refine bT zqT ?_
     exact qx111
    ·try simp only [bls] at hc3
     conv=>whnf
     refine bF zqF ?_
     conv=>whnf
     refine bF zqF ?_
     exact qx111
   ·try simp only [bls] at hc2
    conv=>whnf
    refine bF (by assumption) ?_
    conv=>whnf
    refine bF (by assumption) ?_
    conv=>whnf
    refine bF (by assumption) ?_
    conv=>whnf
    refine bF (by assumption) ?_
    conv=>whnf
    refine bF (by assumption) ?_
    conv=>whnf
    refine FinG.mk none ?_ zqR
    simp only [outs,zqL]
    rw [name_at hy]
    simp_all; done
  ·try simp only [bls] at hc1
   conv=>whnf
   refine bF zqF ?_
   conv=>whnf
   refine bF zqF ?_
   conv=>whnf
   refine bF zqF ?_
   conv=>whnf
   refine FinG.mk none ?_ zqR
   simp only [outs,zqL]
   rw [name_long (by omega)]
theorem word_no {s : ByteArray} {k : Nat} {y : UInt8} (hy : (bs s)[k]? = some y) (h : isL (y.toNat : Int) = false) (h2 : k = 0∨isD (y.toNat : Int) = false) : wordB s = false:=by
  unfold wordB
  cases hs : bs s with
  | nil=>rfl
  | cons a l=>
    rw [hs] at hy
    simp only
    cases k with
    | zero=>simp at hy; subst hy; rw [h]; rfl
    | succ k=>
      have h3 : isD (y.toNat : Int) = false:=by rcases h2 with h2 | h2 <;> first | exact h2 | omega
      rw [decide_eq_false (fun e=>?_)]
      · simp
      · have:=endN_all (p:=isW) (l:=a :: l) (by omega) y (List.mem_of_getElem? hy)
        simp [isW,h,h3] at this
theorem word_yes {s : ByteArray} {k : Nat} (hk : (bs s).length ≤ k) (hne : bs s ≠ []) (h : ∀ j y,j < k→(bs s)[j]? = some y→isL (y.toNat : Int) = true∨(j ≠ 0∧isD (y.toNat : Int) = true)) : wordB s = true:=by
  unfold wordB
  cases hs : bs s with
  | nil=>exact absurd hs hne
  | cons a l=>
    rw [hs] at h hk
    simp only
    have h0:=h 0 a (by simp at hk; omega) rfl
    rw [show isL (a.toNat : Int) = true from by rcases h0 with h0 | h0 <;> first | exact h0 | exact absurd rfl h0.1]
    rw [endN_of (p:=isW) fun c hc=>?_]
    · simp
    · obtain ⟨j,hj,rfl⟩:=List.getElem_of_mem hc
      have:=h j _ (by omega) (List.getElem?_eq_getElem hj)
      rcases this with h1 | h1
      · simp [isW,h1]
      · simp [isW,h1.2]
def wordK (s : ByteArray) (k : Nat) : Prop:=∀ j y,j < k→(bs s)[j]? = some y→isL (y.toNat : Int) = true∨(j ≠ 0∧isD (y.toNat : Int) = true)
theorem wordK_0 (s : ByteArray) : wordK s 0:=fun j y hj=>by omega
theorem wordK_s {s : ByteArray} {k : Nat} {y : UInt8} (h : wordK s k) (hy : (bs s)[k]? = some y) (hq : isL (y.toNat : Int) = true∨(k ≠ 0∧isD (y.toNat : Int) = true)) : wordK s (k + 1):=fun j z hj hz=>by
  rcases Nat.lt_or_ge j k with h1 | h1
  · exact h j z h1 hz
  · obtain rfl : j = k:=by omega
    rw [hy] at hz; injection hz with hz; subst hz; exact hq
set_option maxRecDepth 20000 in
theorem word_X (s : ByteArray) (hs : s.size ≤ 140737488355328) : XMeets Tryz.prog 139 [.v (.string s)] (.p (.v (.bool (wordB s))) (nlv _)):=by
 refine XMeets.of_X tabX_ok (avs:=[.p (.v (.string s)) (nlv _)]) [(0,.p (.v (.string s)) (nlv _))] (by kernel_rfl) Tryz.func139 rfl (by simp [PuL,Pu]) (rfl) rfl rfl ?_
 intro B w0
 have hsl:=bs_len s
 by_cases hne : bs s = []
 ·conv=>whnf
  refine XT.loop tabX_ok (Y:=Nat) [2,3,6,7,8,9,10,11,12,13,14,15,16,17,18,19,20,21,22,23,24,25] (fun k=>[(6,.p (.v (.int .i64 ((k : Int)))) (nlv _))]) (fun k=>[]) (fun k=>k ≤ (bs s).length∧wordK s k) (fun k=>(bs s).length - k) 0 ⟨Nat.zero_le _,wordK_0 _⟩ ?_ ?_
  ·exact qx10
  ·rintro k ⟨hk,hw⟩
   conv=>whnf
   refine bS (fun hc1=>?_) (fun hc1=>?_)
   ·try simp only [bls] at hc1
    conv=>whnf
    refine str_ex k rfl (by omega) ?_; intro y hy hy0 hy1
    conv=>whnf
    refine .ct ?_
    conv=>whnf
    refine CallG.mk (letter6_X _) rfl ?_
    conv=>whnf
    refine bS (fun hc2=>?_) (fun hc2=>?_)
    ·try simp only [bls] at hc2
     conv=>whnf
     refine bT (notT (by assumption)) ?_
     conv=>whnf
     refine bT (notT (by assumption)) ?_
     conv=>whnf
     refine bS (fun hc3=>?_) (fun hc3=>?_)
     ·try simp only [bls] at hc3
      exact qx14
     ·try simp only [bls] at hc3
      conv=>whnf
      refine bF zqF ?_
      conv=>whnf
      refine bF zqF ?_
      conv=>whnf
      refine str_ex2 hy rfl ?_
      conv=>whnf
      refine bF zqF ?_
      conv=>whnf
      refine .ct ?_
      conv=>whnf
      refine CallG.mk (digit6_X _) rfl ?_
      conv=>whnf
      refine bF zqF ?_
      conv=>whnf
      refine bT (notT (by assumption)) ?_
      conv=>whnf
      refine bF zqF ?_
      conv=>whnf
      refine bT (notT (by assumption)) ?_
      conv=>whnf
      refine bS (fun hc4=>?_) (fun hc4=>?_)
      ·try simp only [bls] at hc4
       exact qx110
      ·try simp only [bls] at hc4
       exact qx115
    ·try simp only [bls] at hc2
     exact qx18
   ·try simp only [bls] at hc1
    conv=>whnf
    refine FinG.mk none ?_ zqR
    simp only [outs,zqL]
    rw [show wordB s = false from by simp [wordB,hne]]
    simp [bsEq_n,hne]
 ·have hpos : 0 < (bs s).length:=List.length_pos_iff.2 hne
  conv=>whnf
  refine XT.loop tabX_ok (Y:=Nat) [2,3,6,7,8,9,10,11,12,13,14,15,16,17,18,19,20,21,22,23,24,25] (fun k=>[(6,.p (.v (.int .i64 ((k : Int)))) (nlv _))]) (fun k=>[]) (fun k=>k ≤ (bs s).length∧wordK s k) (fun k=>(bs s).length - k) 0 ⟨Nat.zero_le _,wordK_0 _⟩ ?_ ?_
  ·exact qx10
  ·rintro k ⟨hk,hw⟩
   conv=>whnf
   refine bS (fun hc5=>?_) (fun hc5=>?_)
   ·try simp only [bls] at hc5
    conv=>whnf
    refine str_ex k rfl (by omega) ?_; intro y hy hy0 hy1
    conv=>whnf
    refine .ct ?_
    conv=>whnf
    refine CallG.mk (letter6_X _) rfl ?_
    conv=>whnf
    refine bS (fun hc6=>?_) (fun hc6=>?_)
    ·try simp only [bls] at hc6
     conv=>whnf
     refine bT (notT (by assumption)) ?_
     conv=>whnf
     refine bT (notT (by assumption)) ?_
     conv=>whnf
     refine bS (fun hc7=>?_) (fun hc7=>?_)
     ·try simp only [bls] at hc7
      exact qx14
     ·try simp only [bls] at hc7
      conv=>whnf
      refine bF zqF ?_
      conv=>whnf
      refine bF zqF ?_
      conv=>whnf
      refine str_ex2 hy rfl ?_
      conv=>whnf
      refine bF zqF ?_
      conv=>whnf
      refine .ct ?_
      conv=>whnf
      refine CallG.mk (digit6_X _) rfl ?_
      conv=>whnf
      refine bF zqF ?_
      conv=>whnf
      refine bT (notT (by assumption)) ?_
      conv=>whnf
      refine bF zqF ?_
      conv=>whnf
      refine bT (notT (by assumption)) ?_
      conv=>whnf
      refine bS (fun hc8=>?_) (fun hc8=>?_)
      ·try simp only [bls] at hc8
       exact qx110
      ·try simp only [bls] at hc8
       exact qx115
    ·try simp only [bls] at hc6
     exact qx18
   ·try simp only [bls] at hc5
    conv=>whnf
    refine FinG.mk none ?_ zqR
    simp only [outs,zqL]
    rw [word_yes (by omega) hne hw]
    simp [bsEq_n,hne]
set_option maxRecDepth 20000 in
theorem name6_X (s : ByteArray) (hs : s.size ≤ 140737488355328) : XMeets Tryz.prog 101 [.v (.string s)] (.p (.v (.bool (nameB s))) (nlv _)):=by
 refine XMeets.of_X tabX_ok (avs:=[.p (.v (.string s)) (nlv _)]) [(0,.p (.v (.string s)) (nlv _))] (by kernel_rfl) Tryz.func101 rfl (by simp [PuL,Pu]) (rfl) rfl rfl ?_
 intro B w0
 conv=>whnf
 refine .ct ?_
 conv=>whnf
 refine CallG.mk (key6_X _ (by first | assumption | omega)) rfl ?_
 conv=>whnf
 refine .ct ?_
 conv=>whnf
 refine CallG.mk (word_X _ (by first | assumption | omega)) rfl ?_
 conv=>whnf
 refine bS (fun hc1=>?_) (fun hc1=>?_)
 ·try simp only [bls] at hc1
  conv=>whnf
  refine bT (by assumption) ?_
  conv=>whnf
  refine bT (by assumption) ?_
  conv=>whnf
  refine bS (fun hc2=>?_) (fun hc2=>?_)
  ·try simp only [bls] at hc2
   conv=>whnf
   refine bT (notT (by assumption)) ?_
   conv=>whnf
   refine bT (notT (by assumption)) ?_
   conv=>whnf
   refine bT (notT (by assumption)) ?_
   conv=>whnf
   refine FinG.mk none ?_ zqR
   simp only [outs,zqL]
   simp_all [nameB]; omega
  ·try simp only [bls] at hc2
   conv=>whnf
   refine bF (notF (by assumption)) ?_
   conv=>whnf
   refine bF (notF (by assumption)) ?_
   conv=>whnf
   refine bF (notF (by assumption)) ?_
   exact qx112
 ·try simp only [bls] at hc1
  conv=>whnf
  refine bF (by assumption) ?_
  conv=>whnf
  refine bF (by assumption) ?_
  exact qx112
end Go.Proofs.YtpgfhkbnngjegaaGreatDoor
