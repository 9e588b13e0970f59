/- Memory that is written over, numbers over numbers, where all local blocks stay; calls that write over blocks that are taken together. No condition. -/
import Derived.Test.YtpgfhkbnngjegaaGreatDoorV1
import Derived.Test.YtpgfhkbnngjegaaGreatDoorU6
import Derived.Test.YtpgfhkbnngjegaaGreatDoorU18
import Derived.Test.YtpgfhkbnngjegaaGreatDoorT17
import Derived.Test.YtpgfhkbnngjegaaGreatDoorU3
namespace Go.Proofs.YtpgfhkbnngjegaaGreatDoor
open Go.RowKit
set_option linter.unusedVariables false
set_option linter.unusedSimpArgs false
theorem qv20 {p : Prop} (h : p:=by
 conv=>whnf
 refine .ct ?_
 conv=>whnf
 refine CallG.mk (both1_X _ _ [_] _ (by simp) (by rw [beN_len]; omega)) rfl ?_
 conv=>whnf
 refine bF zqF ?_
 conv=>whnf
 refine FinG.mk (some 3) ?_ (by rintro _ ⟨⟩; trivial)
 simp only [outs,zqL,fr_by1]
 simp [encB,by1, *]; done) : p:=h
theorem qv21 {p : Prop} (h : p:=by
 repeat ((conv=>whnf); first | exact True.intro | refine ⟨.rfl,?_⟩ | refine ⟨.any,?_⟩ | refine ⟨.nil,?_⟩ | refine ⟨.int (by first | rfl | omega | (simp only [wrs]; omega)),?_⟩)) : p:=h
theorem qv22 {p : Prop} (h : p:=by
 repeat ((conv=>whnf); first | exact True.intro | refine ⟨.rfl,?_⟩ | refine ⟨.any,?_⟩ | refine ⟨.nil,?_⟩ | refine ⟨.int (by first | rfl | omega | (simp only [wrs]; omega)),?_⟩ | refine ⟨.int (hi_dw hx hx2 (by omega)),?_⟩ | refine ⟨.int (by simp; done),?_⟩)) : p:=h
theorem qv23 {p : Prop} (h : p:=by
 conv=>whnf
 refine FinG.mk (some 0) ?_ (by rintro _ ⟨⟩; trivial)
 simp only [outs,zqL,fr_by1]
 simp; done) : p:=h
set_option maxRecDepth 20000
set_option maxRecDepth 20000 in
theorem both1_X (b b2 : Bool) (l l2 : List Int) (hl : l.length ≤ 100000) (hl2 : l2.length ≤ 100000) : XMeets Tryz.prog 109 [.sl b (l.map by1),.sl b2 (l2.map by1)] (.ow 5 1 ((l ++ l2).map by1) (nl_by1 _)):=by
 refine XMeets.of_X tabX_ok (avs:=[.p (.sl false (l.map by1)) (nl_by1 _).sl,.p (.sl false (l2.map by1)) (nl_by1 _).sl]) [(0,.p (.sl false (l.map by1)) (nl_by1 _).sl),(1,.p (.sl false (l2.map by1)) (nl_by1 _).sl)] (by kernel_rfl) Tryz.func109 rfl (by simp [PuL,Pu,pu_by1]) (by simp only [untagL,untag,ut_by1]; rfl) rfl rfl ?_
 intro B w0
 conv=>whnf
 simp (disch:=omega) only [wz,Int.reduceAdd,Int.reduceSub,Int.reduceMul,Int.reduceNeg,Int.zero_add,Int.add_zero,Int.sub_zero,Int.sub_self]
 conv=>whnf
 refine ⟨0,l.length + l2.length,rfl,by simp only [wrs,List.length_map]; omega,by omega,(by show (l.length + l2.length) * 1 ≤ 140737488355328; omega),by omega,?_⟩
 conv=>whnf
 refine ⟨ap_by1 _,?_⟩
 conv=>whnf
 refine ⟨by simp only [List.length_map,List.length_append,beN_len,List.length_cons,List.length_nil,List.length_replicate,List.length_drop]; omega,?_⟩
 conv=>whnf
 refine ⟨ap_by1 _,?_⟩
 conv=>whnf
 refine ⟨by simp only [List.length_map,List.length_append,beN_len,List.length_cons,List.length_nil,List.length_replicate,List.length_drop]; omega,?_⟩
 exact qv23
theorem hi_at (x : Int) {m : Nat} : ((List.replicate (m + 1) 0 ++ (beN x 8).drop (m + 1)).map by1)[m]? = some (by1 0):=by
  rw [List.getElem?_map,List.getElem?_append_left (by simp),List.getElem?_replicate]; simp
theorem hi_pow {m : Nat} (h : m < 8) : (256 : Int) ^ (8 - (m + 1)) = 2 ^ (8 * (7 - m)):=by
  rcases m with _ | _ | _ | _ | _ | _ | _ | _ | m <;> first | decide | omega
theorem hi_be (x : Int) {m : Nat} (h : m < 8) : (beN x 8)[m]? = some (x / 256 ^ (8 - (m + 1)) % 256):=by
  rw [beN,List.getElem?_map,List.getElem?_range h,hi_pow h]; rfl
theorem hi_nn {x : Int} (hx : 0 ≤ x) (k : Nat) : 0 ≤ x / 256 ^ k:=Int.ediv_nonneg hx (Int.le_of_lt (Int.pow_pos (by decide)))
theorem hi_set {x : Int} (hx : 0 ≤ x) {m : Nat} (h : m < 8) : ((List.replicate (m + 1) 0 ++ (beN x 8).drop (m + 1)).map by1).set m [TV.v (.int .u8 (IntKind.u8.wrap ((x / 256 ^ (8 - (m + 1))).tmod 256)))] = (List.replicate m 0 ++ (beN x 8).drop m).map by1:=by
  have h2 : m < (beN x 8).length:=by rw [beN_len]; exact h
  have h3:=hi_be x h
  have e1 : (x / 256 ^ (8 - (m + 1))).tmod 256 = x / 256 ^ (8 - (m + 1)) % 256:=Int.tmod_eq_emod_of_nonneg (hi_nn hx _)
  have e2 : IntKind.u8.wrap (x / 256 ^ (8 - (m + 1)) % 256) = x / 256 ^ (8 - (m + 1)) % 256:=by rw [wr_u8]; omega
  rw [e1,e2,List.drop_eq_getElem_cons h2,show (beN x 8)[m] = x / 256 ^ (8 - (m + 1)) % 256 from Option.some.inj ((List.getElem?_eq_getElem h2).symm.trans h3),List.replicate_succ']
  have h4 : (List.replicate m (0 : Int)).length = m:=by simp
  rw [List.append_assoc,List.map_append,List.map_append,List.set_append_right _ _ (by simp)]
  simp [by1]
theorem hi_div {x : Int} (hx : 0 ≤ x) {m : Nat} (h : m < 8) : (x / 256 ^ (8 - (m + 1))).tdiv 256 = x / 256 ^ (8 - m):=by
  rw [Int.tdiv_eq_ediv_of_nonneg (hi_nn hx _),Int.ediv_ediv_of_nonneg (Int.le_of_lt (Int.pow_pos (by decide))),← Int.pow_succ]
  congr 2; omega
theorem hi_dw {x : Int} (hx : 0 ≤ x) (hx2 : x < 18446744073709551616) {m : Nat} (h : m < 8) : IntKind.u64.wrap ((x / 256 ^ (8 - (m + 1))).tdiv 256) = x / 256 ^ (8 - m):=by
  rw [hi_div hx h,wr_u64]
  exact Int.emod_eq_of_lt (hi_nn hx _) (Int.lt_of_le_of_lt (Int.ediv_le_self _ hx) hx2)
set_option maxRecDepth 20000 in
theorem high8_X (x : Int) (hx : 0 ≤ x) (hx2 : x < 18446744073709551616) : XMeets Tryz.prog 110 [.v (.int .u64 x),.v (.int .i64 8)] (.ow 5 1 ((beN x 8).map by1) (nl_by1 _)):=by
 refine XMeets.of_X tabX_ok (avs:=[.p (.v (.int .u64 x)) (nlv _),.p (.v (.int .i64 8)) (nlv _)]) [(0,.p (.v (.int .u64 x)) (nlv _)),(1,.p (.v (.int .i64 8)) (nlv _))] (by kernel_rfl) Tryz.func110 rfl (by simp [PuL,Pu,pu_by1]) (by simp only [untagL,untag,ut_by1]; rfl) rfl rfl ?_
 intro B w0
 conv=>whnf
 refine ⟨8,8,rfl,rfl,by omega,Nat.le_of_ble_eq_true rfl,by omega,?_⟩
 conv=>whnf
 refine XT.loop tabX_ok (Y:=Nat) [0,5,6,8,11,12,13,14,15,16,17,18,19,20,21,22] (fun m=>[(5,.row 0),(6,.p (.v (.int .i64 ((m : Int) - 1))) (nlv _)),(0,.p (.v (.int .u64 (x / 256 ^ (8 - m)))) (nlv _))]) (fun m=>[(0,.row 5 1 ((List.replicate m 0 ++ (beN x 8).drop m).map by1) (nl_by1 _))]) (fun m=>m ≤ 8) (fun m=>m) 8 (Nat.le_refl _) ?_ ?_
 ·refine ⟨?_,?_,?_⟩
  ·exact qv22
  ·repeat (first | exact LeVs.nil | ((conv=>whnf); first | exact True.intro | exact .none | exact .ext | exact .row rfl | refine .cells ?_ | refine ⟨_,_,rfl,.rfl,?_⟩ | refine ⟨_,_,rfl,.any,?_⟩ | refine ⟨_,_,rfl,.nil,?_⟩ | refine ⟨_,_,rfl,.int (by first | rfl | omega | (simp only [wrs]; omega)),?_⟩ | refine ⟨_,_,rfl,.int (hi_dw hx hx2 (by omega)),?_⟩ | refine ⟨_,_,rfl,.int (by simp; done),?_⟩ | refine ⟨?_,?_⟩))
   done
  ·exact LeFr.nil
 ·rintro m hm
  rcases m with _ | m
  ·exact qv23
  ·conv=>whnf
   refine bT zqT ?_
   conv=>whnf
   simp (disch:=omega) only [wz,Int.reduceAdd,Int.reduceSub,Int.reduceMul,Int.reduceNeg,Int.zero_add,Int.add_zero,Int.sub_zero,Int.sub_self]
   conv=>whnf
   refine ⟨_,(Int.toNat_of_nonneg (by omega)).symm,?_⟩
   conv=>whnf
   refine ⟨by simp only [List.length_map,List.length_append,beN_len,List.length_cons,List.length_nil,List.length_replicate,List.length_drop]; omega,?_⟩
   conv=>whnf
   refine IdxG.mk (j:=m) (hi_at x) (by omega) ?_
   conv=>whnf
   refine ⟨rfl,?_⟩
   conv=>whnf
   refine ⟨m,by omega,Nat.lt_succ_self _,?_⟩
   refine ⟨?_,?_,?_⟩
   ·exact qv22
   ·repeat (first | exact LeVs.nil | ((conv=>whnf); first | exact True.intro | exact .none | exact .ext | exact .row rfl | exact .row (hi_set hx (by omega)) | refine .cells ?_ | refine ⟨_,_,rfl,.rfl,?_⟩ | refine ⟨_,_,rfl,.any,?_⟩ | refine ⟨_,_,rfl,.nil,?_⟩ | refine ⟨_,_,rfl,.int (by first | rfl | omega | (simp only [wrs]; omega)),?_⟩ | refine ⟨_,_,rfl,.int (hi_dw hx hx2 (by omega)),?_⟩ | refine ⟨_,_,rfl,.int (by simp; done),?_⟩ | refine ⟨?_,?_⟩))
    done
   ·exact LeFr.nil
theorem bias {n : Int} (h : I64 n) : IntKind.u64.wrap (IntKind.u64.wrap n + 9223372036854775808) = n + 9223372036854775808∧(0 ≤ n + 9223372036854775808∧n + 9223372036854775808 < 18446744073709551616)∧IntKind.u64.wrap (IntKind.u64.wrap n - 9223372036854775808) = n + 9223372036854775808:=by
  unfold I64 at h
  rw [wr_u64,wr_u64,wr_u64]; omega
theorem esk_0 {c : Int} {u : ByteArray} (h : c = 4) : [[TV.v (.int .u8 (IntKind.u8.wrap c))]] = (c :: escT u 0).map by1:=by subst h; simp [escT,by1,wr_u8]
theorem esk_z {c : Int} {u : ByteArray} {j : Nat} (h : j < u.size) (hz : (((bs u).getD j 0).toNat : Int) = 0) : (c :: escT u j).map by1 ++ [[TV.v (.int .u8 (((bs u).getD j 0).toNat : Int))]] ++ [[TV.v (.int .u8 255)]] = (c :: escT u (j + 1)).map by1:=by
  rw [escT_succ h,hz]; simp [by1,esc1]
theorem esk_c {c : Int} {u : ByteArray} {j : Nat} (h : j < u.size) (hz : ¬ (((bs u).getD j 0).toNat : Int) = 0) : (c :: escT u j).map by1 ++ [[TV.v (.int .u8 (((bs u).getD j 0).toNat : Int))]] = (c :: escT u (j + 1)).map by1:=by
  rw [escT_succ h]
  generalize (((bs u).getD j 0).toNat : Int) = x at hz ⊢
  simp [by1,esc1,hz]
theorem biasT_X (v : Val) (hn : I64 v.n) : XMeets Tryz.prog 110 [.v (.int .u64 (IntKind.u64.wrap (IntKind.u64.wrap v.n - 9223372036854775808))),.v (.int .i64 8)] (.ow 5 1 ((beN (v.n + 9223372036854775808) 8).map by1) (nl_by1 _)):=by
  rw [(bias hn).2.2]; exact high8_X _ (bias hn).2.1.1 (bias hn).2.1.2
theorem biasF_X (v : Val) (hn : I64 v.n) : XMeets Tryz.prog 110 [.v (.int .u64 (IntKind.u64.wrap (IntKind.u64.wrap v.n + 9223372036854775808))),.v (.int .i64 8)] (.ow 5 1 ((beN (v.n + 9223372036854775808) 8).map by1) (nl_by1 _)):=by
  rw [(bias hn).1]; exact high8_X _ (bias hn).2.1.1 (bias hn).2.1.2
set_option maxRecDepth 20000 in
theorem bytes5_X (v : Val) (hn : I64 v.n) (hr : rightB v = true) : XMeets Tryz.prog 63 [valT v] (.ow 5 1 ((encB v).map by1) (nl_by1 _)):=by
 refine XMeets.of_X tabX_ok (avs:=[valY v]) [(0,valY v)] (by kernel_rfl) Tryz.func63 rfl (by simp [PuL,Pu,valT]) (rfl) rfl rfl ?_
 intro B w0
 have h64 : v.k = 4→v.t.size ≤ 64:=fun h4=>by simp [rightB,h4] at hr; exact hr.2
 conv=>whnf
 refine bS (fun hc1=>?_) (fun hc1=>?_)
 ·try simp only [bls] at hc1
  conv=>whnf
  simp (disch:=omega) only [wz,Int.reduceAdd,Int.reduceSub,Int.reduceMul,Int.reduceNeg,Int.zero_add,Int.add_zero,Int.sub_zero,Int.sub_self]
  conv=>whnf
  refine ⟨ApOk.lit rfl,?_⟩
  conv=>whnf
  refine ⟨by simp only [List.length_map,List.length_append,beN_len,List.length_cons,List.length_nil,List.length_replicate,List.length_drop]; omega,?_⟩
  conv=>whnf
  refine bF zqF ?_
  conv=>whnf
  refine bF zqF ?_
  conv=>whnf
  refine FinG.mk (some 1) ?_ (by rintro _ ⟨⟩; trivial)
  simp only [outs,zqL,fr_by1]
  rw [show v.k = 2 by assumption]
  simp [encB,by1, *,wr_u8]
 ·try simp only [bls] at hc1
  conv=>whnf
  refine bS (fun hc2=>?_) (fun hc2=>?_)
  ·try simp only [bls] at hc2
   conv=>whnf
   refine bS (fun hc3=>?_) (fun hc3=>?_)
   ·try simp only [bls] at hc3
    conv=>whnf
    refine .ct ?_
    conv=>whnf
    refine CallG.mk (biasT_X v hn) rfl ?_
    exact qv20
   ·try simp only [bls] at hc3
    conv=>whnf
    refine .ct ?_
    conv=>whnf
    refine CallG.mk (biasF_X v hn) rfl ?_
    exact qv20
  ·try simp only [bls] at hc2
   conv=>whnf
   refine bS (fun hc4=>?_) (fun hc4=>?_)
   ·try simp only [bls] at hc4
    conv=>whnf
    refine XT.loop tabX_ok (Y:=Nat) [3,5,9,39,40,41,42,43,44,45,46,47,48,49,50,51,52,53,54,55,56,57,58,59,60] (fun k=>[(5,.p (.v (.int .i64 k)) (nlv _)),(3,.row 1)]) (fun k=>[(1,.row 5 1 ((v.k :: escT v.t k).map by1) (nl_by1 _))]) (fun k=>k ≤ v.t.size) (fun k=>v.t.size - k) 0 (Nat.zero_le _) ?_ ?_
    ·refine ⟨?_,?_,?_⟩
     ·exact qv21
     ·repeat (first | exact LeVs.nil | ((conv=>whnf); first | exact True.intro | exact .none | exact .ext | exact .row rfl | exact .row (esk_0 (by assumption)) | refine .cells ?_ | refine ⟨_,_,rfl,.rfl,?_⟩ | refine ⟨_,_,rfl,.any,?_⟩ | refine ⟨_,_,rfl,.nil,?_⟩ | refine ⟨_,_,rfl,.int (by first | rfl | omega | (simp only [wrs]; omega)),?_⟩ | refine ⟨?_,?_⟩))
      done
     ·exact LeFr.nil
    ·rintro k hk
     have hsz:=h64 (by assumption)
     conv=>whnf
     refine bS (fun hc5=>?_) (fun hc5=>?_)
     ·try simp only [bls] at hc5
      conv=>whnf
      refine ⟨k,_,str_at (by omega),rfl,?_⟩
      conv=>whnf
      refine ⟨ApOk.lit rfl,?_⟩
      conv=>whnf
      refine ⟨by have:=escT_len v.t k; simp only [List.length_map,List.length_append,List.length_cons,List.length_nil]; omega,?_⟩
      conv=>whnf
      refine ⟨k,_,str_at (by omega),rfl,?_⟩
      conv=>whnf
      refine bS (fun hc6=>?_) (fun hc6=>?_)
      ·try simp only [bls] at hc6
       conv=>whnf
       refine ⟨ApOk.lit rfl,?_⟩
       conv=>whnf
       refine ⟨by have:=escT_len v.t k; simp only [List.length_map,List.length_append,List.length_cons,List.length_nil]; omega,?_⟩
       conv=>whnf
       refine ⟨(k + 1),by omega,by omega,?_⟩
       refine ⟨?_,?_,?_⟩
       ·exact qv21
       ·repeat (first | exact LeVs.nil | ((conv=>whnf); first | exact True.intro | exact .none | exact .ext | exact .row rfl | exact .row (esk_z (by omega) (by assumption)) | refine .cells ?_ | refine ⟨_,_,rfl,.rfl,?_⟩ | refine ⟨_,_,rfl,.any,?_⟩ | refine ⟨_,_,rfl,.nil,?_⟩ | refine ⟨_,_,rfl,.int (by first | rfl | omega | (simp only [wrs]; omega)),?_⟩ | refine ⟨?_,?_⟩))
        done
       ·exact LeFr.nil
      ·try simp only [bls] at hc6
       conv=>whnf
       refine ⟨(k + 1),by omega,by omega,?_⟩
       refine ⟨?_,?_,?_⟩
       ·exact qv21
       ·repeat (first | exact LeVs.nil | ((conv=>whnf); first | exact True.intro | exact .none | exact .ext | exact .row rfl | exact .row (esk_c (by omega) (by assumption)) | refine .cells ?_ | refine ⟨_,_,rfl,.rfl,?_⟩ | refine ⟨_,_,rfl,.any,?_⟩ | refine ⟨_,_,rfl,.nil,?_⟩ | refine ⟨_,_,rfl,.int (by first | rfl | omega | (simp only [wrs]; omega)),?_⟩ | refine ⟨?_,?_⟩))
        done
       ·exact LeFr.nil
     ·try simp only [bls] at hc5
      conv=>whnf
      refine ⟨ApOk.lit rfl,?_⟩
      conv=>whnf
      refine ⟨by have:=escT_len v.t k; simp only [List.length_map,List.length_append,List.length_cons,List.length_nil]; omega,?_⟩
      conv=>whnf
      refine FinG.mk (some 1) ?_ (by rintro _ ⟨⟩; trivial)
      simp only [outs,zqL,fr_by1]
      obtain rfl : k = v.t.size:=by omega
      rw [show v.k = 4 by assumption]
      simp [encB,escT_all,by1, *,wr_u8]
   ·try simp only [bls] at hc4
    conv=>whnf
    refine FinG.mk (some 1) ?_ (by rintro _ ⟨⟩; trivial)
    simp only [outs,zqL,fr_by1]
    simp [encB,by1, *]; done
end Go.Proofs.YtpgfhkbnngjegaaGreatDoor

namespace Go.Proofs.YtpgfhkbnngjegaaGreatDoor
open Go.RowKit
set_option linter.unusedVariables false
set_option linter.unusedSimpArgs false
mutual
def shr : TV→TV
 | .agg ts=>.agg (shrL ts)
 | .tup ts=>.tup (shrL ts)
 | .osl e sz els=>.sl true els
 | .any=>.any
 | .v x=>.v x
 | .nil_=>.nil_
 | .fn f ts=>.fn f ts
 | .ptr i off=>.ptr i off
 | .row i=>.row i
 | .sl b els=>.sl b els
 | .eptr ts=>.eptr ts
 | .z i t=>.z i t
 | .win i k sz=>.win i k sz
def shrL : List TV→List TV
 | []=>[]
 | t :: ts=>shr t :: shrL ts
end
mutual
def ShO : TV→Prop
 | .agg ts=>ShOL ts
 | .tup ts=>ShOL ts
 | .osl e sz els=>FrLL els
 | .any=>True
 | .v x=>True
 | .nil_=>True
 | .fn f ts=>FrL ts
 | .ptr i off=>False
 | .row i=>False
 | .sl b els=>b = true∧FrLL els
 | .eptr ts=>False
 | .z _ _=>False
 | .win _ _ _=>False
def ShOL : List TV→Prop
 | []=>True
 | t :: ts=>ShO t∧ShOL ts
end
section
variable {base : Nat} {w' : World} {ov : Value}
theorem fr_shared (t : TV) (u : Value) (h : Fr t) (hd : Dn (rsCx base w' ov) t u) : Dn (rsCx base w' .nilFunc) t u:=Dn.fr (C:=rsCx base w' ov) (C':=rsCx base w' .nilFunc) rfl (Nat.le_refl _) (fun k hk _ _=>⟨hk.1,fun h=>by cases h⟩) t u h hd
mutual
theorem shr_dn (hov : ∀ g,blkOf ov = some g→base ≤ g∧g < w'.heap.size) : ∀ (t : TV) (u : Value),ShO t→Dn (rsCx base w' ov) t u→Dn (rsCx base w' .nilFunc) (shr t) u
 | .agg ts,u,h,hd=>by
  simp only [ShO] at h
  simp only [Dn,shr] at hd ⊢
  obtain ⟨vs,h1,h2⟩:=hd
  exact ⟨vs,h1,shrL_dn hov ts vs h h2⟩
 | .tup ts,u,h,hd=>by
  simp only [ShO] at h
  simp only [Dn,shr] at hd ⊢
  obtain ⟨vs,h1,h2⟩:=hd
  exact ⟨vs,h1,shrL_dn hov ts vs h h2⟩
 | .osl e sz els,u,h,hd=>by
  simp only [ShO] at h
  simp only [Dn] at hd
  obtain ⟨A,c,css,rfl,⟨h5,h6⟩,h7,h8⟩:=hd
  have h9 : DnLL (rsCx base w' .nilFunc) els css:=DnLL.fr (C:=rsCx base w' ov) (C':=rsCx base w' .nilFunc) rfl (Nat.le_refl _) (fun k hk _ _=>⟨hk.1,fun h=>by cases h⟩) _ _ h h8
  refine row_sl (base:=base) h6 h7 h9 (fun ad ha=>⟨?_,fun h=>by cases h⟩) (fun _=>Nat.le_refl _)
  refine (hov ad.block ?_).1
  rw [← h5,ha]
  rfl
 | .any,u,h,hd=>by simp [Dn,shr]
 | .v x,u,h,hd=>fr_shared (.v x) u (by simp [Fr]) hd
 | .nil_,u,h,hd=>fr_shared (.nil_) u (by simp [Fr]) hd
 | .fn f ts,u,h,hd=>fr_shared (.fn f ts) u (by simp only [Fr]; exact h) hd
 | .sl b els,u,h,hd=>fr_shared (.sl b els) u (by simp only [Fr]; exact h) hd
 | .ptr i off,u,h,hd=>False.elim h
 | .row i,u,h,hd=>False.elim h
 | .eptr ts,u,h,hd=>False.elim h
 | .z _ _,u,h,hd=>False.elim h
 | .win _ _ _,u,h,hd=>False.elim h
theorem shrL_dn (hov : ∀ g,blkOf ov = some g→base ≤ g∧g < w'.heap.size) : ∀ (ts : List TV) (us : List Value),ShOL ts→DnL (rsCx base w' ov) ts us→DnL (rsCx base w' .nilFunc) (shrL ts) us
 | [],us,h,hd=>by simp only [DnL,shrL] at hd ⊢; exact hd
 | t :: ts,us,h,hd=>by
  simp only [ShOL] at h
  simp only [DnL,shrL] at hd ⊢
  obtain ⟨u,us',rfl,h1,h2⟩:=hd
  exact ⟨u,us',rfl,shr_dn hov t u h.1 h1,shrL_dn hov ts us' h.2 h2⟩
end
end
end Go.Proofs.YtpgfhkbnngjegaaGreatDoor

namespace Go.Proofs.YtpgfhkbnngjegaaGreatDoor
open Go.RowKit
set_option linter.unusedVariables false
set_option linter.unusedSimpArgs false
structure FT where
 q : Nat
 i : Nat
 off : Nat
 len : Nat
 old : Bool
structure FX where
 q : Nat
 i : Nat
 off : Nat
 ol : List XV
 old : Bool
def FX.den (f : FX) : FsE:=⟨f.q,f.i,f.off,XV.denL f.ol,f.old⟩
def FT.den (f : FT) : FsE:=⟨f.q,f.i,f.off,List.replicate f.len .any,f.old⟩
theorem disF_no (a b : FsE) : disF a.no b.no = disF a b:=by simp [disF,FsE.no]
theorem disAll_no : ∀ (l : List FsE),disAll (l.map FsE.no) = disAll l
 | []=>rfl
 | f :: r=>by
  simp only [List.map_cons,disAll,disAll_no r,List.all_map]
  congr 1
  apply congrArg (fun p=>List.all r p)
  funext g
  simp only [Function.comp,disF_no]
  rfl
section
variable {P : Program} {B : Nat} {w0 : World} {T : Tab} {n : Nat} {gh : List Value} {Q : Exit→St→Prop}
def knowAll : List FT→List XLB→List XLB→(List FX→List XLB→Prop)→Prop
 | [],_,h,k=>k [] h
 | x :: r,h0,h,k=>cellsAtK h0 x.i fun _ cs=>match Nat.ble (x.off + x.len) cs.length with
  | true=>dropK x.off cs fun c1=>takeK x.len c1 fun ol=>cellsAtK h x.i fun t' cs'=>putsK cs' x.off (List.replicate x.len .any) fun c2=>setK h x.i (.cells t' c2) fun h'=>knowAll r h0 h' fun fs h''=>k (⟨x.q,x.i,x.off,ol,x.old⟩ :: fs) h''
  | false=>False
theorem setF_cons {f : FsE} {r : List FsE} {h : List LB} {t : TypeId} {cs : List TV} (hi : hf h f.i = .cells t cs) : setF h (f :: r) = setF (h.set f.i (.cells t (setsV cs f.off f.ol))) r:=by simp only [setF,hi]
theorem knowAll_ok {h0 : List XLB} : ∀ {ts : List FT} {h : List XLB} {k : List FX→List XLB→Prop},knowAll ts h0 h k→∃ fs h',k fs h'∧h'.map XLB.den = setF (h.map XLB.den) ((fs.map FX.den).map FsE.no)∧(fs.map FX.den).map FsE.no = ts.map FT.den ∧
  ∀ f ∈ fs.map FX.den,∃ t cs,hf (h0.map XLB.den) f.i = .cells t cs∧f.off + f.ol.length ≤ cs.length∧(f.old = true→(cs.drop f.off).take f.ol.length = f.ol)
 | [],h,k,hh=>⟨[],h,hh,rfl,rfl,by simp⟩
 | x :: r,h,k,hh=>by
  obtain ⟨t,cs,h1,_,hh⟩:=cellsAtK_ok hh
  split at hh
  ·rename_i hle
   have hle:=Nat.le_of_ble_eq_true hle
   have hh:=takeK_ok (k:=fun ol=>cellsAtK h x.i fun t' cs'=>putsK cs' x.off (List.replicate x.len .any) fun c2=>setK h x.i (.cells t' c2) fun h'=>knowAll r h0 h' fun fs h''=>k (⟨x.q,x.i,x.off,ol,x.old⟩ :: fs) h'') (dropK_ok (k:=fun c1=>takeK x.len c1 fun ol=>cellsAtK h x.i fun t' cs'=>putsK cs' x.off (List.replicate x.len .any) fun c2=>setK h x.i (.cells t' c2) fun h'=>knowAll r h0 h' fun fs h''=>k (⟨x.q,x.i,x.off,ol,x.old⟩ :: fs) h'') hh)
   obtain ⟨t',cs',h2,_,hh⟩:=cellsAtK_ok hh
   have hh:=setK_ok (k:=fun h'=>knowAll r h0 h' fun fs h''=>k (⟨x.q,x.i,x.off,(cs.drop x.off).take x.len,x.old⟩ :: fs) h'') (putsK_ok (k:=fun c2=>setK h x.i (.cells t' c2) fun h'=>knowAll r h0 h' fun fs h''=>k (⟨x.q,x.i,x.off,(cs.drop x.off).take x.len,x.old⟩ :: fs) h'') hh)
   obtain ⟨fs,h',e1,e2,e3,e4⟩:=knowAll_ok hh
   have hlen : (XV.denL ((cs.drop x.off).take x.len)).length = x.len:=by rw [denL_map,List.length_map,List.length_take,List.length_drop]; omega
   have hno : FsE.no (FX.den ⟨x.q,x.i,x.off,(cs.drop x.off).take x.len,x.old⟩) = FT.den x:=by
    simp only [FsE.no,FX.den,FT.den,hlen]
   refine ⟨_,h',e1,?_,?_,fun f hf=>?_⟩
   ·simp only [List.map_cons,hno]
    rw [setF_cons (show hf (h.map XLB.den) (FT.den x).i = _ from h2),e2]
    have hr : XV.denL (List.replicate x.len XV.any) = List.replicate x.len TV.any:=by rw [denL_map,List.map_replicate]; rfl
    simp only [List.map_set,XLB.den,denL_setsV,hr,FT.den]
   ·simp only [List.map_cons,hno,e3]
   ·rw [List.map_cons] at hf
    rcases List.mem_cons.1 hf with rfl | hf
    ·refine ⟨t,_,h1,?_,fun _=>?_⟩
     ·simp only [FX.den,hlen]
      rw [denL_map,List.length_map]; exact hle
     ·simp only [FX.den,hlen]
      rw [denL_map,denL_map,List.map_take,List.map_drop]
    ·exact e4 f hf
  ·exact hh.elim
def setFK : List FX→List XLB→(List XLB→Prop)→Prop
 | [],h,k=>k h
 | f :: r,h,k=>cellsAtK h f.i fun t cs=>putsK cs f.off f.ol fun c2=>setK h f.i (.cells t c2) fun h'=>setFK r h' k
theorem setFK_ok : ∀ {fs : List FX} {h : List XLB} {k : List XLB→Prop},setFK fs h k→∃ h',h'.map XLB.den = setF (h.map XLB.den) (fs.map FX.den)∧k h'
 | [],h,k,hh=>⟨h,rfl,hh⟩
 | f :: r,h,k,hh=>by
  obtain ⟨t,cs,h2,_,hh⟩:=cellsAtK_ok hh
  have hh:=setK_ok (k:=fun h'=>setFK r h' k) (putsK_ok (k:=fun c2=>setK h f.i (.cells t c2) fun h'=>setFK r h' k) hh)
  obtain ⟨h',e1,e2⟩:=setFK_ok hh
  refine ⟨h',?_,e2⟩
  rw [e1,List.map_cons,setF_cons (show hf (h.map XLB.den) (FX.den f).i = _ from h2)]
  simp only [List.map_set,XLB.den,denL_setsV,FX.den]
def knK (L : List Oper) (p : Nat) : List FX→(List FX→Prop)→Prop
 | [],k=>k []
 | f :: r,k=>match f.old && reachB L p 8 f.q with
  | true=>knK L p r fun l=>k (f :: l)
  | false=>knK L p r k
theorem knK_ok {L : List Oper} {p : Nat} : ∀ {fs : List FX} {k : List FX→Prop},knK L p fs k→∃ kn,(∀ f ∈ kn,f ∈ fs∧f.old = true∧reachB L p 8 f.q = true)∧k kn
 | [],k,hh=>⟨[],by simp,hh⟩
 | f :: r,k,hh=>by
  unfold knK at hh
  split at hh
  ·rename_i hb
   simp only [Bool.and_eq_true] at hb
   obtain ⟨kn,h1,h2⟩:=knK_ok hh
   refine ⟨f :: kn,fun g hg=>?_,h2⟩
   rcases List.mem_cons.1 hg with rfl | hg
   ·exact ⟨by simp,hb⟩
   ·exact ⟨List.mem_cons_of_mem _ (h1 g hg).1,(h1 g hg).2⟩
  ·obtain ⟨kn,h1,h2⟩:=knK_ok hh
   exact ⟨kn,fun g hg=>⟨List.mem_cons_of_mem _ (h1 g hg).1,(h1 g hg).2⟩,h2⟩
def FX.hit (p i off len : Nat) (f : FX) : Bool:=Nat.beq f.q p && (Nat.beq f.i i && (Nat.beq f.off off && Nat.beq f.ol.length len))
def stoK (T : Tab) (n : Nat) (fs : List FX) (p : Nat) (e : Env) (h : List XLB) (t : TypeId) (x y : Operand) (pd : List FX) (k : List FX→Prop) : Prop:=tyK T t fun ti=>cellsK (xev n e y) fun l=>isK l.length ti.n (match allOne l with
 | false=>False
 | true=>match xev n e x with
  | .ptr i off=>cellsAtK h i fun t0 cs=>match Nat.ble (off + l.length) cs.length with
   | true=>match fs.any (FX.hit p i off l.length) with
    | true=>setsV (XV.denL cs) off (List.replicate l.length .any) = XV.denL cs∧k (pd ++ [⟨0,i,off,l,false⟩])
    | false=>False
   | false=>False
  | _=>False)
def isLoad : Op→Bool
 | .load _ _=>true
 | _=>false
def pdk (ds : List StD) (pd : List FX) : Prop:=ds.map StD.f = pd.map FX.den
end
end Go.Proofs.YtpgfhkbnngjegaaGreatDoor

namespace Go.Proofs.YtpgfhkbnngjegaaGreatDoor
open Go.RowKit
set_option linter.unusedVariables false
set_option linter.unusedSimpArgs false
section
variable {P : Program} {Q : Exit→Act→World→Prop} {ops : Array Oper} {d : Nat}
def sameAt (d : Nat) (a b : Act) : Prop:=a.tmps.toList[d]? = b.tmps.toList[d]?
theorem sameAt_put {a : Act} {dst : Option Tmp} {v : Value} (h : dst ≠ some d) : sameAt d (a.put dst v) a:=by
 unfold sameAt Act.put
 cases dst with
 | none=>rfl
 | some k=>
  have : k ≠ d:=fun e=>h (by rw [e])
  simp [Array.getElem?_setIfInBounds,this]
theorem op_same {o : Oper} {a : Act} {w : World} {K : Act→World→Prop} (hd : o.dst ≠ some d) (h : o.wp P a w K Q) : o.wp P a w (fun a' w'=>sameAt d a' a∧K a' w') Q:=by
 unfold Oper.wp at h ⊢
 revert h
 generalize (execOp a.eval o).run P w = r
 intro h
 unfold Oper.upon at h ⊢
 split at h
 ·exact ⟨sameAt_put hd,h⟩
 ·exact ⟨sameAt_put hd,h⟩
 ·exact ⟨sameAt_put hd,h⟩
 ·exact h.mono fun e w' hh=>by
   cases e with
   | returned v=>exact ⟨sameAt_put hd,hh⟩
   | panicked c=>exact hh
   | outgrown=>exact hh
 ·exact h.mono fun v w' hh=>⟨sameAt_put hd,hh⟩
 ·exact h
 ·exact h
def keptQ (d : Nat) (a0 : Act) (Q : Exit→Act→World→Prop) : Exit→Act→World→Prop
 | .normal,a,w=>sameAt d a a0∧Q .normal a w
 | ex,a,w=>Q ex a w
theorem op_kept {o : Oper} {a a0 : Act} {w : World} {K : Act→World→Prop} (h : o.wp P a w K Q) : o.wp P a w K (keptQ d a0 Q):=by
 unfold Oper.wp at h ⊢
 revert h
 generalize (execOp a.eval o).run P w = r
 intro h
 unfold Oper.upon at h ⊢
 split at h
 ·exact h
 ·exact h
 ·exact h
 ·exact h.mono fun e w' hh=>by
   cases e with
   | returned v=>exact hh
   | panicked c=>exact hh
   | outgrown=>exact hh
 ·exact h
 ·exact h
 ·exact h
theorem wpAny_kept {md : Region.Mode} (hd : ∀ o ∈ ops.toList,o.dst ≠ some d) {a0 : Act} : ∀ (fuel : Nat) (listed : Array Bool) (a : Act) (w : World),sameAt d a a0→wpAny P md ops Q fuel listed a w→wpAny P md ops (keptQ d a0 Q) fuel listed a w
 | 0,listed,a,w,hs,h=>⟨h.1,hs,h.2⟩
 | fuel + 1,listed,a,w,hs,h=>by
  refine ⟨fun hr=>⟨hs,h.1 hr⟩,fun i hi=>?_⟩
  have h2:=h.2 i hi
  unfold wpOp at h2 ⊢
  split
  ·rename_i ho
   rw [ho] at h2
   exact wpAny_kept hd fuel _ a w hs h2
  ·rename_i o ho
   rw [ho] at h2
   simp only at h2
   have hdo:=hd o (by have:=Array.mem_of_getElem? ho; simpa using this)
   split
   ·rename_i hw
    rw [if_pos hw] at h2
    rcases h2 with h2 | ⟨h2,x,y,h3⟩
    ·exact .inl (Oper.wp_mono (fun a' w' hh=>wpAny_kept hd fuel _ a' w' (hh.1.trans hs) hh.2) (op_kept (op_same hdo h2)))
    ·exact .inr ⟨h2,x,y,h3⟩
   ·rename_i hw
    rw [if_neg hw] at h2
    exact wpAny_kept hd fuel _ _ w ((sameAt_put hdo).trans hs) h2
theorem op_monoQ {Q2 : Exit→Act→World→Prop} (hq : ∀ ex a w,Q ex a w→Q2 ex a w) {o : Oper} {a : Act} {w : World} {K : Act→World→Prop} (h : o.wp P a w K Q) : o.wp P a w K Q2:=by
 unfold Oper.wp at h ⊢
 revert h
 generalize (execOp a.eval o).run P w = r
 intro h
 unfold Oper.upon at h ⊢
 split at h
 ·exact h
 ·exact h
 ·exact h
 ·exact h.mono fun e w' hh=>by
   cases e with
   | returned v=>exact hh
   | panicked c=>exact hq _ _ _ hh
   | outgrown=>obtain ⟨x,y,hh⟩:=hh; exact ⟨x,y,hq _ _ _ hh⟩
 ·exact h
 ·exact hq _ _ _ h
 ·exact h
theorem wpAny_monoQ {md : Region.Mode} {Q2 : Exit→Act→World→Prop} (hq : ∀ ex a w,Q ex a w→Q2 ex a w) : ∀ (fuel : Nat) (listed : Array Bool) (a : Act) (w : World),wpAny P md ops Q fuel listed a w→wpAny P md ops Q2 fuel listed a w
 | 0,listed,a,w,h=>⟨h.1,hq _ _ _ h.2⟩
 | fuel + 1,listed,a,w,h=>by
  refine ⟨fun hr=>hq _ _ _ (h.1 hr),fun i hi=>?_⟩
  have h2:=h.2 i hi
  unfold wpOp at h2 ⊢
  split
  ·rename_i ho
   rw [ho] at h2
   exact wpAny_monoQ hq fuel _ a w h2
  ·rename_i o ho
   rw [ho] at h2
   simp only at h2
   split
   ·rename_i hw
    rw [if_pos hw] at h2
    rcases h2 with h2 | ⟨h2,x,y,h3⟩
    ·exact .inl (Oper.wp_mono (fun a' w' hh=>wpAny_monoQ hq fuel _ a' w' hh) (op_monoQ hq h2))
    ·exact .inr ⟨h2,x,y,hq _ _ _ h3⟩
   ·rename_i hw
    rw [if_neg hw] at h2
    exact wpAny_monoQ hq fuel _ _ w h2
end
section
variable {P : Program} {B : Nat} {w0 : World} {T : Tab} {n : Nat} {e : Env} {h : List XLB} {gs : Frames}
def noDst (d : Nat) (o : Oper) : Bool:=match o.dst with
 | some k=>!Nat.beq k d
 | none=>true
theorem noDst_ne {d : Nat} {o : Oper} (h : noDst d o = true) : o.dst ≠ some d:=fun e=>by
 unfold noDst at h
 rw [e] at h
 simp at h
theorem RegG.unpin {l : List Oper} {k : KK} (d : Nat) {u : Value} {t : TV} {hp : Nl t} (hd : look e d = .pin u t hp) (hk : PinOk B w0 u t) (hn : Nat.blt d n = true) (hl : l.all (noDst d) = true)
  (hx : RegG P B w0 T n l ((d,.p t hp) :: e) h gs fun e2 h2 gs2=>forceE ((d,.pin u t hp) :: e2) fun e3=>k e3 h2 gs2) : RegG P B w0 T n l e h gs k:=.ta fun O gh Q hq=>by
 have hdn:=Nat.blt_eq.mp hn
 intro ρ a w hr
 have hr' : RelS B w0 gh ρ (xst n ((d,.p t hp) :: e) h gs) a w:=⟨PinRes.one hd hk ρ _ w _ hr.rel hr.slots,hr.ghost,hr.rel,hr.defers⟩
 obtain ⟨u',hu,hu2⟩:=hr.slots.at_ d _ (toL_get? e hdn)
 rw [hd] at hu2
 simp only [XV.den,Dn] at hu2
 subst hu2
 have h1:=regG_ta (gh:=gh) (Q:=fun ex σ=>match ex with
  | .normal=>∃ e2 h2 gs2,σ = xst n e2 h2 gs2∧forceE ((d,.pin u' t hp) :: e2) fun e3=>k e3 h2 gs2
  | ex=>False) O hx (fun e2 h2 gs2 hh=>⟨e2,h2,gs2,rfl,hh⟩)
 have h2:=wpAny_kept (d:=d) (a0:=a) (fun o ho=>noDst_ne (List.all_eq_true.1 hl o (by simpa using ho))) _ _ a w.drew rfl (h1 ρ a w hr')
 refine wpAny_monoQ ?_ _ _ _ _ h2
 intro ex a' w' hh
 cases ex with
 | normal=>
  obtain ⟨hs,σ,ρ',⟨e2,h2',gs2,rfl,hf⟩,hr2⟩:=hh
  refine ⟨_,ρ',hq _ _ _ (forceE_ok (k:=fun e3=>k e3 h2' gs2) hf),?_,hr2.ghost,hr2.rel,hr2.defers⟩
  show DnL _ (toL n _) _
  rw [toL_set _ _ hdn]
  have h5:=hr2.slots.set (t:=.v u') (u:=u') d (by simp [Dn])
  have e2 : a'.tmps.toList.set d u' = a'.tmps.toList:=by
   apply List.ext_getElem?
   intro i
   rw [List.getElem?_set]
   split
   ·rename_i hi; subst hi; split
    ·exact (hs.trans hu).symm
    ·rename_i h2; rw [List.getElem?_eq_none (by omega)]
   ·rfl
  rw [e2] at h5
  exact h5
 | _=>obtain ⟨σ,ρ',hf,_⟩:=hh; exact hf.elim
end
end Go.Proofs.YtpgfhkbnngjegaaGreatDoor

namespace Go.Proofs.YtpgfhkbnngjegaaGreatDoor
open Go.RowKit
set_option linter.unusedVariables false
set_option linter.unusedSimpArgs false
def wP : (t : TV)→Nl t→XV
 | .v x,h=>.p (.v x) h
 | .nil_,h=>.p .nil_ h
 | .any,_ | .agg _,_ | .tup _,_ | .fn _ _,_ | .ptr _ _,_ | .row _,_ | .sl _ _,_ | .eptr _,_ | .osl _ _ _,_ | .z _ _,_ | .win _ _ _,_=>.any
mutual
def wX : XV→XV
 | .p t h=>wP t h
 | .pin u t h=>.pin u t h
 | .row i=>.row i
 | .ptr i off=>.ptr i off
 | .rp i k sz j=>.rp i k sz j
 | .z i t h=>.z i t h
 | .win i k sz=>.win i k sz
 | .ag vs=>.ag (wXL vs)
 | .tu vs=>.tu (wXL vs)
 | .fu f vs=>.fu f (wXL vs)
 | .any=>.any
 | .ow _ _ _ _=>.any
def wXL : List XV→List XV
 | []=>[]
 | v :: vs=>wX v :: wXL vs
end
mutual
theorem wX_dn {C C' : Cx} (hl : ∀ i,C.pres i→C'.pres i∧C'.ρ i = C.ρ i) (hz : ∀ i t u,C.pres i→DnZ C.w (C.Z i) C.B t u→DnZ C'.w (C'.Z i) C'.B t u) : ∀ (v : XV) (u : Value),Dn C v.den u→Dn C' (wX v).den u
 | .p t hp,u,h=>by cases t <;> simp only [wX,wP,XV.den,Dn] at h ⊢ <;> exact h
 | .pin x t hn,u,h=>by simp only [wX,XV.den,Dn] at h ⊢; exact h
 | .row i,u,h=>by
  simp only [wX,XV.den,Dn] at h ⊢
  exact ⟨(hl i h.1).1,by rw [(hl i h.1).2]; exact h.2⟩
 | .ptr i off,u,h=>by
  simp only [wX,XV.den,Dn] at h ⊢
  obtain ⟨h1,g,h2,h3⟩:=h
  exact ⟨(hl i h1).1,g,by rw [(hl i h1).2]; exact h2,h3⟩
 | .rp i k sz j,u,h=>by
  simp only [wX,XV.den,Dn] at h ⊢
  obtain ⟨h1,g,h2,h3⟩:=h
  exact ⟨(hl i h1).1,g,by rw [(hl i h1).2]; exact h2,h3⟩
 | .z i t hn,u,h=>by
  simp only [wX,XV.den,Dn] at h ⊢
  exact ⟨(hl i h.1).1,hz i t u h.1 h.2⟩
 | .win i k sz,u,h=>by
  simp only [wX,XV.den,Dn] at h ⊢
  obtain ⟨h1,g,n,c,h2,h3⟩:=h
  exact ⟨(hl i h1).1,g,n,c,by rw [(hl i h1).2]; exact h2,h3⟩
 | .ag vs,u,h=>by
  simp only [wX,XV.den,Dn] at h ⊢
  obtain ⟨us,h1,h2⟩:=h
  exact ⟨us,h1,wXL_dn hl hz vs us h2⟩
 | .tu vs,u,h=>by
  simp only [wX,XV.den,Dn] at h ⊢
  obtain ⟨us,h1,h2⟩:=h
  exact ⟨us,h1,wXL_dn hl hz vs us h2⟩
 | .fu f vs,u,h=>by
  simp only [wX,XV.den,Dn] at h ⊢
  obtain ⟨us,h1,h2⟩:=h
  exact ⟨us,h1,wXL_dn hl hz vs us h2⟩
 | .any,u,_=>by simp [wX,XV.den,Dn]
 | .ow _ _ _ _,u,_=>by simp [wX,XV.den,Dn]
theorem wXL_dn {C C' : Cx} (hl : ∀ i,C.pres i→C'.pres i∧C'.ρ i = C.ρ i) (hz : ∀ i t u,C.pres i→DnZ C.w (C.Z i) C.B t u→DnZ C'.w (C'.Z i) C'.B t u) : ∀ (vs : List XV) (us : List Value),DnL C (XV.denL vs) us→DnL C' (XV.denL (wXL vs)) us
 | [],us,h=>by simp only [wXL,XV.denL,DnL] at h ⊢; exact h
 | v :: vs,us,h=>by
  simp only [wXL,XV.denL,DnL] at h ⊢
  obtain ⟨u,us',h1,h2,h3⟩:=h
  exact ⟨u,us',h1,wX_dn hl hz v u h2,wXL_dn hl hz vs us' h3⟩
end
section
variable {P : Program} {B : Nat} {w0 : World} {n : Nat} {e : Env} {h : List XLB} {gs : Frames}
end
section
variable {P : Program} {B : Nat} {w0 : World} {T : Tab} {n : Nat} {e : Env} {h : List XLB} {gs : Frames} {K : XQ} {c : Code}
end
section
variable {P : Program} {B : Nat} {w0 : World} {n : Nat} {e : Env} {h : List XLB} {gs : Frames}
def unzP : (t : TV)→Option TV
 | .v x=>some (.v x)
 | .nil_=>some (.sl true [])
 | .any | .agg _ | .tup _ | .fn _ _ | .ptr _ _ | .row _ | .sl _ _ | .eptr _ | .osl _ _ _ | .z _ _ | .win _ _ _=>none
mutual
def unzX (i : Nat) : XV→Option TV
 | .p t _=>unzP t
 | .z j t _=>match Nat.beq j i with
  | true=>some t
  | false=>none
 | .ag vs=>match unzXL i vs with
  | some ts=>some (.agg ts)
  | none=>none
 | .any | .row _ | .ptr _ _ | .rp _ _ _ _ | .tu _ | .fu _ _ | .ow _ _ _ _ | .pin _ _ _ | .win _ _ _=>none
def unzXL (i : Nat) : List XV→Option (List TV)
 | []=>some []
 | v :: vs=>match unzX i v with
  | some t=>match unzXL i vs with
   | some ts=>some (t :: ts)
   | none=>none
  | none=>none
end
def zCx (C : Cx) (i : Nat) : Cx:=⟨C.w,C.Z i,C.B,fun _=>.nilFunc,fun _=>False,fun _ _ _ _ _=>False,fun _ _=>False⟩
mutual
theorem unz_dn {C : Cx} {i : Nat} : ∀ (v : XV) (t : TV) (u : Value),unzX i v = some t→Dn C v.den u→Dn (zCx C i) t u
 | .p t0 hp,t,u,e,h=>by
  cases t0 <;> simp only [unzX,unzP,Option.some.injEq,reduceCtorEq] at e
  ·subst e; simp only [XV.den,Dn] at h ⊢; exact h
  ·subst e
   simp only [XV.den,Dn] at h ⊢
   exact ⟨none,0,[],0,h,Nat.le_refl _,by simp [maxLen],by simp,by simp,by simp [DnLL],fun ad ha=>by cases ha⟩
 | .z j t0 hp,t,u,e,h=>by
  simp only [unzX] at e
  split at e
  ·rename_i hb
   injection e with e
   subst e
   obtain rfl:=Nat.eq_of_beq_eq_true hb
   simp only [XV.den,Dn] at h
   exact DnZ.dn (C:=zCx C j) (fun k hk _=>hk) (Nat.le_refl _) _ _ h.2
  ·cases e
 | .ag vs,t,u,e,h=>by
  simp only [unzX] at e
  split at e
  ·rename_i ts hts
   injection e with e
   subst e
   simp only [XV.den,Dn] at h ⊢
   obtain ⟨us,h1,h2⟩:=h
   exact ⟨us,h1,unzL_dn vs ts us hts h2⟩
  ·cases e
 | .any,t,u,e,_ | .row _,t,u,e,_ | .ptr _ _,t,u,e,_ | .rp _ _ _ _,t,u,e,_ | .tu _,t,u,e,_ | .fu _ _,t,u,e,_ | .ow _ _ _ _,t,u,e,_ | .pin _ _ _,t,u,e,_ | .win _ _ _,t,u,e,_=>by simp [unzX] at e
theorem unzL_dn {C : Cx} {i : Nat} : ∀ (vs : List XV) (ts : List TV) (us : List Value),unzXL i vs = some ts→DnL C (XV.denL vs) us→DnL (zCx C i) ts us
 | [],ts,us,e,h=>by
  simp only [unzXL,Option.some.injEq] at e
  subst e
  simp only [XV.denL,DnL] at h ⊢
  exact h
 | v :: vs,ts,us,e,h=>by
  simp only [unzXL] at e
  split at e
  ·rename_i t ht
   split at e
   ·rename_i ts' hts
    injection e with e
    subst e
    simp only [XV.denL,DnL] at h ⊢
    obtain ⟨u,us',h1,h2,h3⟩:=h
    exact ⟨u,us',h1,unz_dn v t u ht h2,unzL_dn vs ts' us' hts h3⟩
   ·cases e
  ·cases e
end
end
end Go.Proofs.YtpgfhkbnngjegaaGreatDoor
