/- Rows by their keys: the order of values, a row put among rows, rows sorted. Plain law. No condition. -/
import Derived.Test.YtpgfhkbnngjegaaGreatDoorW7
import Derived.Test.YtpgfhkbnngjegaaGreatDoorW6
namespace Go.Proofs.YtpgfhkbnngjegaaGreatDoor
open Go.RowKit
set_option linter.unusedVariables false
set_option linter.unusedSimpArgs false
theorem qw80 {p : Prop} (h : p:=by
 refine leEnv_app (by kernel_rfl) (by kernel_rfl) ?_
 repeat ((conv=>whnf); first | exact True.intro | refine ⟨.rfl,?_⟩ | refine ⟨.any,?_⟩ | refine ⟨.nil,?_⟩ | refine ⟨.int (by first | rfl | omega | (simp only [wrs]; omega)),?_⟩)) : p:=h
set_option maxRecDepth 20000
/-- A pair. -/
structure Cel where
  k : ByteArray
  v : ByteArray
def clC (x : Cel) : List TV:=[.v (.string x.k),.v (.string x.v)]
theorem nl_cl (l : List Cel) : NlLL (l.map clC):=.map fun x _=>.cons (nlv _) (.cons (nlv _) .nil)
theorem pu_cl (l : List Cel) : PuLL (l.map clC):=PuLL_map _ _ fun x _=>by simp [clC,PuL,Pu]
theorem fr_cl (l : List Cel) : FrLL (l.map clC):=FrLL_map _ _ fun x _=>by simp [clC,FrL,Fr]
theorem untag_cl (l : List Cel) : untagLL (l.map clC) = l.map clC:=by rw [untagLL_map]; rfl
theorem name_len {s : ByteArray} (h : nameB s = true) : s.size ≤ 24:=by
  unfold nameB at h
  simp only [Bool.and_eq_true,decide_eq_true_eq] at h
  exact h.2
structure TabF (t : Tbl) : Prop where
  n : t.n.size ≤ 24
  c : t.c.length ≤ 6
  d : ∀ d ∈ t.c,d.n.size ≤ 24
  r : t.r.length ≤ 40
  k0 : 0 ≤ keyI t.c
  k1 : keyI t.c < t.c.length
  w : ∀ r ∈ t.r,rowB t.c r = true
theorem tab_F {t : Tbl} (h : tabB t = true) : TabF t:=by
  unfold tabB at h
  simp only [Bool.and_eq_true,decide_eq_true_eq] at h
  obtain ⟨⟨h1,h2⟩,h3⟩:=h
  have hk:=head_key h1
  unfold headB at h1
  simp only [Bool.and_eq_true,decide_eq_true_eq] at h1
  obtain ⟨⟨⟨⟨g1,g2⟩,g3⟩,g4⟩,g5⟩:=h1
  refine ⟨name_len g1,g3,fun d hd=>?_,h2,hk.1,hk.2,fun r hr=>?_⟩
  · obtain ⟨j,hj,rfl⟩:=List.getElem_of_mem hd
    have:=(goodB_iff.1 g5).1 j _ hj (List.getElem?_eq_getElem hj)
    unfold colB at this
    simp only [Bool.and_eq_true] at this
    exact name_len this.1.1
  · obtain ⟨j,hj,rfl⟩:=List.getElem_of_mem hr
    exact (rowsB_iff.1 h3).1 j _ hj (List.getElem?_eq_getElem hj)
theorem row_ok {c : List Dfn} {r : List Val} (h : rowB c r = true) : okR r = true:=by
  have hl:=rowB_len h
  unfold rowB at h
  rw [Bool.and_eq_true,List.all_eq_true] at h
  refine List.all_eq_true.2 fun v hv=>?_
  obtain ⟨j,hj,rfl⟩:=List.getElem_of_mem hv
  have h2:=h.2 (r[j],c[j]'(by omega)) (by rw [← List.getElem_zip (h:=by rw [List.length_zip]; omega)]; exact List.getElem_mem _)
  unfold fitB at h2
  rw [Bool.and_eq_true] at h2
  exact h2.1
theorem sto_F {s : List Tbl} (h : stoB s = true) : s.length ≤ 4∧∀ t ∈ s,tabB t = true:=by
  have:=(stF_iff (Nat.le_refl _)).1 h
  refine ⟨this.1,fun t ht=>?_⟩
  obtain ⟨j,hj,rfl⟩:=List.getElem_of_mem ht
  exact this.2.1 j _ hj (List.getElem?_eq_getElem hj)
def hdP (t : Tbl) : Cel:=⟨nmS 1 t.n,strOfNums (hdL t.c)⟩
def rwP (t : Tbl) (r : List Val) : Cel:=⟨rkS t.n (vAt r (keyI t.c)),rbS r⟩
def pr1 (s : List Tbl) (k : Nat) : List Cel:=(s.take k).map hdP
def pr2 (s : List Tbl) (k : Nat) : List Cel:=s.map hdP ++ (s.take k).flatMap fun t=>t.r.map (rwP t)
def pr3 (s : List Tbl) (k : Nat) (t : Tbl) (j : Nat) : List Cel:=pr2 s k ++ (t.r.take j).map (rwP t)
/-- Tables as pairs. -/
def prL (s : List Tbl) : List Cel:=pr2 s s.length
theorem pr1_s {s : List Tbl} {k : Nat} {t : Tbl} (h : s[k]? = some t) : (pr1 s k).map clC ++ [[.v (.string (nmS 1 t.n)),.v (.string (strOfNums (hdL t.c)))]] = (pr1 s (k + 1)).map clC:=by
  obtain ⟨hk,rfl⟩:=List.getElem?_eq_some_iff.1 h
  unfold pr1
  rw [List.take_succ_eq_append_getElem hk,List.map_append,List.map_append]
  rfl
theorem pr3_s {s : List Tbl} {k j : Nat} {t : Tbl} {r : List Val} (h : t.r[j]? = some r) {v : Val} (hv : r[(keyI t.c).toNat]? = some v) : (pr3 s k t j).map clC ++ [[.v (.string (rkS t.n v)),.v (.string (rbS r))]] = (pr3 s k t (j + 1)).map clC:=by
  obtain ⟨hk,rfl⟩:=List.getElem?_eq_some_iff.1 h
  unfold pr3
  rw [List.take_succ_eq_append_getElem hk,List.map_append,List.map_append,List.map_append,List.map_append,List.append_assoc]
  simp only [List.map_cons,List.map_nil,clC,rwP,vAt_of hv]
theorem pr3_e {s : List Tbl} {k j : Nat} {t : Tbl} (h : s[k]? = some t) (h1 : j ≤ t.r.length) (h2 : (t.r.length : Int) ≤ j) : (pr3 s k t j).map clC = (pr2 s (k + 1)).map clC:=by
  obtain ⟨hk,rfl⟩:=List.getElem?_eq_some_iff.1 h
  obtain rfl : j = (s[k]).r.length:=by omega
  unfold pr3 pr2
  rw [List.take_succ_eq_append_getElem hk,List.flatMap_append,List.take_length]
  simp
theorem pr1_e {s : List Tbl} {k : Nat} (h1 : k ≤ s.length) (h2 : (s.length : Int) ≤ k) : (pr1 s k).map clC = (pr2 s 0).map clC:=by
  obtain rfl : k = s.length:=by omega
  simp [pr1,pr2]
theorem pr2_e {s : List Tbl} {k : Nat} (h1 : k ≤ s.length) (h2 : (s.length : Int) ≤ k) : pr2 s k = prL s:=by
  obtain rfl : k = s.length:=by omega
  rfl
theorem fm_len {s : List Tbl} (h : ∀ t ∈ s,TabF t) : (s.flatMap fun t=>t.r.map (rwP t)).length ≤ 40 * s.length:=by
  induction s with
  | nil=>simp
  | cons t s ih=>
    have h1:=ih fun x hx=>h x (by simp [hx])
    have h2:=(h t (by simp)).r
    rw [List.flatMap_cons,List.length_append,List.length_map,List.length_cons,Nat.mul_add]
    omega
theorem pr2_len {s : List Tbl} (h : ∀ t ∈ s,TabF t) (k : Nat) : (pr2 s k).length ≤ 41 * s.length:=by
  unfold pr2
  have h1:=fm_len (s:=s.take k) fun t ht=>h t (List.mem_of_mem_take ht)
  rw [List.length_append,List.length_map]
  have h2 : (s.take k).length ≤ s.length:=by rw [List.length_take]; omega
  have h3 : 40 * (s.take k).length ≤ 40 * s.length:=Nat.mul_le_mul_left _ h2
  omega
theorem pr3_len {s : List Tbl} (h : ∀ t ∈ s,TabF t) (k j : Nat) {t : Tbl} (ht : TabF t) : (pr3 s k t j).length ≤ 41 * s.length + 40:=by
  unfold pr3
  have h1:=pr2_len h k
  have h2:=ht.r
  rw [List.length_append,List.length_map,List.length_take]
  omega
structure PRH (s : List Tbl) : Prop where
  n : s.length ≤ 4
  F : ∀ t ∈ s,TabF t
theorem PRH.of {s : List Tbl} (h : stoB s = true) : PRH s:=⟨(sto_F h).1,fun t ht=>tab_F ((sto_F h).2 t ht)⟩
theorem key_at {t : Tbl} {r : List Val} (h : TabF t) (hr : r ∈ t.r) : (keyI t.c).toNat < r.length:=by
  have h1:=h.k0
  have h2:=h.k1
  rw [rowB_len (h.w r hr)]
  omega
set_option maxRecDepth 20000 in
theorem pairs_F (b b1 b2 b3 : Bool) (s : List Tbl) (hs : ∀ t ∈ s,t.In) (hn : s.length ≤ 100000) (hg : stoB s = false) : XMeets Tryz.prog 34 [stT b b1 b2 b3 s] (.p .nil_ nlnil):=by
 refine XMeets.of_X tabX_ok (avs:=[.ag [.p (.sl false (s.map (tbC false false false))) (nl_tb _ _ _ _).sl]]) [(0,.ag [.p (.sl false (s.map (tbC false false false))) (nl_tb _ _ _ _).sl])] (by kernel_rfl) Tryz.func34 rfl (by simp [PuL,Pu,tbT,stT,tbC,rwC,vlC,dfC,pu_vl,pu_dc,pu_rw,pu_tb]) (by simp only [untagL,untag,tbT,stT,tbC,rwC,vlC,dfC,untag_vl,untag_dc,untag_rw,untag_tb]; rfl) rfl rfl ?_
 intro B w0
 conv=>whnf
 refine .ct ?_
 conv=>whnf
 refine CallG.mk (check_T _ _ _ _ _ hs hn) rfl ?_
 conv=>whnf
 refine bT zqS ?_
 conv=>whnf
 refine FinG.mk none ?_ zqR
 simp only [outs,zqL,fr_by1,fr_cl,fr_rw,fr_tb,fr_dc,fr_vl]
set_option maxRecDepth 20000 in
theorem pairs_T (b b1 b2 b3 : Bool) (s : List Tbl) (hs : ∀ t ∈ s,t.In) (hn : s.length ≤ 100000) (hg : stoB s = true) (hF : PRH s) : XMeets Tryz.prog 34 [stT b b1 b2 b3 s] (.ow 62 2 ((prL s).map clC) (nl_cl _)):=by
 refine XMeets.of_XM [(4,.p (.v (.bool true)) (nlv _))] tabX_ok (avs:=[.ag [.p (.sl false (s.map (tbC false false false))) (nl_tb _ _ _ _).sl]]) [(0,.ag [.p (.sl false (s.map (tbC false false false))) (nl_tb _ _ _ _).sl])] (by kernel_rfl) Tryz.func34 rfl (by simp [PuL,Pu,tbT,stT,tbC,rwC,vlC,dfC,pu_vl,pu_dc,pu_rw,pu_tb]) (by simp only [untagL,untag,tbT,stT,tbC,rwC,vlC,dfC,untag_vl,untag_dc,untag_rw,untag_tb]; rfl) rfl rfl ?_
 intro B w0
 conv=>whnf
 refine .ct ?_
 conv=>whnf
 refine CallG.mk (check_T _ _ _ _ _ hs hn) rfl ?_
 conv=>whnf
 refine bF zqS ?_
 conv=>whnf
 refine XT.nilr 3 62 2 rfl rfl ?_
 conv=>whnf
 refine XT.pass tabX_ok ?_
 conv=>whnf
 refine XT.pass tabX_ok ?_
 conv=>whnf
 refine XT.loop tabX_ok (Y:=Nat) [3,5,18,19,20,21,22,23,24,25,26,27,28,29,30,31,32] (fun k=>[(18,.p (.v (.int .i64 (k))) (nlv _)),(3,.row 1)]) (fun k=>[(1,.row 62 2 ((pr1 s k).map clC) (nl_cl _))]) (fun k=>k ≤ s.length) (fun k=>s.length - k) 0 (Nat.zero_le _) ?_ ?_
 ·refine ⟨?_,?_,?_⟩
  ·exact qw80
  ·repeat (first | exact LeVs.nil | ((conv=>whnf); first | exact True.intro | exact .none | exact .ext | exact .row rfl | refine .cells ?_ | refine ⟨_,_,rfl,.rfl,?_⟩ | refine ⟨_,_,rfl,.any,?_⟩ | refine ⟨_,_,rfl,.nil,?_⟩ | refine ⟨_,_,rfl,.int (by first | rfl | omega | (simp only [wrs]; omega)),?_⟩ | refine ⟨?_,?_⟩))
   done
  ·exact LeFr.same (by kernel_rfl)
 ·rintro k hk
  conv=>whnf
  refine bS (fun hc1=>?_) (fun hc1=>?_)
  ·try simp only [bls] at hc1
   conv=>whnf
   refine IdxG.map (l:=s) k rfl (by first | omega | (simp only [List.length_map] at *; omega)) ?_; intro t1 ht1 hnt1; have hF1:=hF.F _ (List.mem_of_getElem? ht1); have hin1:=hs _ (List.mem_of_getElem? ht1)
   conv=>whnf
   refine ⟨rfl,?_⟩
   conv=>whnf
   refine RegG.par 9 (by kernel_rfl) ?_
   conv=>whnf
   refine CallG.mk (named1_T _ (by have:=hF1.n; omega)) rfl ?_
   conv=>whnf
   refine CallG.mk (head_T _ _ _ _ (by have:=hF1.c; omega) (fun d hd=>by have:=hF1.d d hd; omega)) rfl ?_
   conv=>whnf
   refine ⟨_,rfl,?_⟩
   conv=>whnf
   refine ⟨ApOk.lit rfl,?_⟩
   conv=>whnf
   refine ⟨by have:=hF.n; simp only [List.length_append,List.length_map,List.length_cons,List.length_nil,pr1,List.length_take]; omega,?_⟩
   conv=>whnf
   refine ⟨(k + 1),by omega,by omega,?_⟩
   refine ⟨?_,?_,?_⟩
   ·exact qw80
   ·repeat (first | exact LeVs.nil | ((conv=>whnf); first | exact True.intro | exact .none | exact .ext | exact .row rfl | exact .row ((pr1_s ht1)) | refine .cells ?_ | refine ⟨_,_,rfl,.rfl,?_⟩ | refine ⟨_,_,rfl,.any,?_⟩ | refine ⟨_,_,rfl,.nil,?_⟩ | refine ⟨_,_,rfl,.int (by first | rfl | omega | (simp only [wrs]; omega)),?_⟩ | refine ⟨?_,?_⟩))
    done
   ·exact LeFr.same (by kernel_rfl)
  ·try simp only [bls] at hc1
   conv=>whnf
   refine XT.loop tabX_ok (Y:=Nat) [3,7,8,9,11,36,37,38,39,40,41,42,43,44,45,46,47,48,49,50,51,52,53,54,55,56,57,58,59,60,61,62,63,64,65,66] (fun q=>[(36,.p (.v (.int .i64 (q))) (nlv _)),(3,.row 1)]) (fun q=>[(1,.row 62 2 ((pr2 s q).map clC) (nl_cl _))]) (fun q=>q ≤ s.length) (fun q=>s.length - q) 0 (Nat.zero_le _) ?_ ?_
   ·refine ⟨?_,?_,?_⟩
    ·exact qw80
    ·repeat (first | exact LeVs.nil | ((conv=>whnf); first | exact True.intro | exact .none | exact .ext | exact .row rfl | exact .row ((pr1_e hk (by omega))) | refine .cells ?_ | refine ⟨_,_,rfl,.rfl,?_⟩ | refine ⟨_,_,rfl,.any,?_⟩ | refine ⟨_,_,rfl,.nil,?_⟩ | refine ⟨_,_,rfl,.int (by first | rfl | omega | (simp only [wrs]; omega)),?_⟩ | refine ⟨?_,?_⟩))
     done
    ·exact LeFr.same (by kernel_rfl)
   ·rintro q hq
    conv=>whnf
    refine bS (fun hc2=>?_) (fun hc2=>?_)
    ·try simp only [bls] at hc2
     conv=>whnf
     refine IdxG.map (l:=s) q rfl (by first | omega | (simp only [List.length_map] at *; omega)) ?_; intro t2 ht2 hnt2; have hF2:=hF.F _ (List.mem_of_getElem? ht2); have hin2:=hs _ (List.mem_of_getElem? ht2); have hrl2:=hF2.r
     conv=>whnf
     refine ⟨rfl,?_⟩
     conv=>whnf
     refine .ct ?_
     conv=>whnf
     refine CallG.mk (key_T _ _ _ _ (by have:=hF2.c; omega)) rfl ?_
     conv=>whnf
     refine XT.loop tabX_ok (Y:=Nat) [3,11,48,49,50,51,52,53,54,55,56,57,58,59,60,61,62,63,64,65] (fun j=>[(48,.p (.v (.int .i64 (j))) (nlv _)),(3,.row 1)]) (fun j=>[(1,.row 62 2 ((pr3 s q t2 j).map clC) (nl_cl _))]) (fun j=>j ≤ t2.r.length) (fun j=>t2.r.length - j) 0 (Nat.zero_le _) ?_ ?_
     ·refine ⟨?_,?_,?_⟩
      ·exact qw80
      ·repeat (first | exact LeVs.nil | ((conv=>whnf); first | exact True.intro | exact .none | exact .ext | exact .row rfl | exact .row ((by simp [pr3])) | refine .cells ?_ | refine ⟨_,_,rfl,.rfl,?_⟩ | refine ⟨_,_,rfl,.any,?_⟩ | refine ⟨_,_,rfl,.nil,?_⟩ | refine ⟨_,_,rfl,.int (by first | rfl | omega | (simp only [wrs]; omega)),?_⟩ | refine ⟨?_,?_⟩))
       done
      ·exact LeFr.same (by kernel_rfl)
     ·rintro j hj
      conv=>whnf
      refine bS (fun hc3=>?_) (fun hc3=>?_)
      ·try simp only [bls] at hc3
       conv=>whnf
       refine IdxG.map (l:=t2.r) j rfl (by first | omega | (simp only [List.length_map] at *; omega)) ?_; intro r1 hr1 hnr1; have hm1:=List.mem_of_getElem? hr1
       conv=>whnf
       refine ⟨rfl,?_⟩
       conv=>whnf
       refine RegG.par 12 (by kernel_rfl) ?_
       conv=>whnf
       refine IdxG.map (l:=r1) (keyI t2.c).toNat (by have:=hF2.k0; omega) (by have:=key_at hF2 hm1; simpa using this) ?_; intro v1 hv1 hnv1; have hok1:=(hin2.r _ hm1).2 _ (List.mem_of_getElem? hv1)
       conv=>whnf
       refine ⟨rfl,?_⟩
       conv=>whnf
       refine CallG.mk (rk_T _ _ (by have:=hF2.n; omega) hok1) rfl ?_
       conv=>whnf
       refine CallG.mk (rb_T _ _ (hin2.r _ hm1).1 (hin2.r _ hm1).2) rfl ?_
       conv=>whnf
       refine ⟨ApOk.lit rfl,?_⟩
       conv=>whnf
       refine ⟨by have:=hF.n; have:=pr3_len hF.F q j hF2; simp only [List.length_append,List.length_map,List.length_cons,List.length_nil]; omega,?_⟩
       conv=>whnf
       refine ⟨(j + 1),by omega,by omega,?_⟩
       refine ⟨?_,?_,?_⟩
       ·exact qw80
       ·repeat (first | exact LeVs.nil | ((conv=>whnf); first | exact True.intro | exact .none | exact .ext | exact .row rfl | exact .row ((pr3_s hr1 hv1)) | refine .cells ?_ | refine ⟨_,_,rfl,.rfl,?_⟩ | refine ⟨_,_,rfl,.any,?_⟩ | refine ⟨_,_,rfl,.nil,?_⟩ | refine ⟨_,_,rfl,.int (by first | rfl | omega | (simp only [wrs]; omega)),?_⟩ | refine ⟨?_,?_⟩))
        done
       ·exact LeFr.same (by kernel_rfl)
      ·try simp only [bls] at hc3
       conv=>whnf
       refine ⟨(q + 1),by omega,by omega,?_⟩
       refine ⟨?_,?_,?_⟩
       ·exact qw80
       ·repeat (first | exact LeVs.nil | ((conv=>whnf); first | exact True.intro | exact .none | exact .ext | exact .row rfl | exact .row ((pr3_e ht2 hj (by omega))) | refine .cells ?_ | refine ⟨_,_,rfl,.rfl,?_⟩ | refine ⟨_,_,rfl,.any,?_⟩ | refine ⟨_,_,rfl,.nil,?_⟩ | refine ⟨_,_,rfl,.int (by first | rfl | omega | (simp only [wrs]; omega)),?_⟩ | refine ⟨?_,?_⟩))
        done
       ·exact LeFr.same (by kernel_rfl)
    ·try simp only [bls] at hc2
     conv=>whnf
     refine FinG.mk (some 1) ?_ (by rintro _ ⟨⟩; trivial)
     simp only [outs,zqL,fr_by1,fr_cl,fr_rw,fr_tb,fr_dc,fr_vl]
     rw [pr2_e hq (by omega)]
end Go.Proofs.YtpgfhkbnngjegaaGreatDoor

namespace Go.Proofs.YtpgfhkbnngjegaaGreatDoor
open Go.RowKit
set_option linter.unusedVariables false
set_option linter.unusedSimpArgs false
set_option maxRecDepth 20000
theorem bl_trans : ∀ a b c : List UInt8,Op.bytesLess a b = true→Op.bytesLess b c = true→Op.bytesLess a c = true
 | a,[],_,h,_=>by cases a <;> simp [Op.bytesLess] at h
 | _,_ :: _,[],_,h=>by simp [Op.bytesLess] at h
 | [],_ :: _,_ :: _,_,_=>rfl
 | x :: a,y :: b,z :: c,h1,h2=>by
  simp only [Op.bytesLess,Bool.or_eq_true,decide_eq_true_eq,Bool.and_eq_true,beq_iff_eq] at h1 h2 ⊢
  rcases h1 with h1 | ⟨rfl,h1⟩ <;> rcases h2 with h2 | ⟨rfl,h2⟩
  ·left
   have h3 : x.toNat < y.toNat:=h1
   have h4 : y.toNat < z.toNat:=h2
   show x.toNat < z.toNat
   omega
  ·exact .inl h1
  ·exact .inl h2
  ·exact .inr ⟨rfl,bl_trans a b c h1 h2⟩
theorem cmpI_lt {a b : Int} : cmpI a b < 0↔a < b:=by unfold cmpI; split <;> (try split) <;> omega
theorem cmpI_0 {a b : Int} : cmpI a b = 0↔a = b:=by unfold cmpI; split <;> (try split) <;> omega
theorem cmpS_lt {a b : List UInt8} : cmpS a b < 0↔Op.bytesLess a b = true:=by
 unfold cmpS
 split
 ·simp_all
 ·split <;> simp_all
theorem cmpS_0 {a b : List UInt8} : cmpS a b = 0↔a = b:=by
 unfold cmpS
 split
 ·rename_i h
  constructor
  ·intro h2; simp at h2
  ·rintro rfl; simp [bytesLess_irrefl] at h
 ·split <;> simp_all
theorem cmpV_lt {a b : Val} : cmpV a b < 0↔a.k < b.k∨a.k = b.k∧(a.n < b.n∨a.n = b.n∧Op.bytesLess (bs a.t) (bs b.t) = true):=by
 unfold cmpV
 simp only [orN]
 by_cases h1 : a.k = b.k
 ·rw [if_pos (cmpI_0.2 h1)]
  by_cases h2 : a.n = b.n
  ·rw [if_pos (cmpI_0.2 h2)]
   by_cases h3 : cmpS (bs a.t) (bs b.t) = 0
   ·rw [if_pos h3]
    rw [cmpS_0] at h3
    simp [h1,h2,h3,bytesLess_irrefl]
   ·rw [if_neg h3,cmpS_lt]
    simp [h1,h2]
  ·rw [if_neg (fun h=>h2 (cmpI_0.1 h)),cmpI_lt]
   simp [h1,h2]
 ·rw [if_neg (fun h=>h1 (cmpI_0.1 h)),cmpI_lt]
  simp [h1]
theorem cmpV_0 {a b : Val} : cmpV a b = 0↔a = b:=by
 constructor
 ·intro h
  unfold cmpV at h
  simp only [orN] at h
  split at h
  ·rename_i h1
   split at h
   ·rename_i h2
    have h3 : cmpS (bs a.t) (bs b.t) = 0:=by split at h <;> assumption
    rw [cmpI_0] at h1 h2
    rw [cmpS_0] at h3
    cases a; cases b
    simp only at h1 h2 h3
    rw [h1,h2,bs_ext h3]
   ·contradiction
  ·contradiction
 ·rintro rfl
  simp [cmpV,orN,cmpI_0.2,cmpS_0.2]
theorem cmpV_irr (a : Val) : ¬ cmpV a a < 0:=by rw [cmpV_0.2 rfl]; omega
theorem cmpV_trans {a b c : Val} (h : cmpV a b < 0) (h2 : cmpV b c < 0) : cmpV a c < 0:=by
 rw [cmpV_lt] at h h2 ⊢
 rcases h with h | ⟨h,h3 | ⟨h3,h4⟩⟩ <;> rcases h2 with h2 | ⟨h2,h5 | ⟨h5,h6⟩⟩
 ·left; omega
 ·left; omega
 ·left; omega
 ·left; omega
 ·right; exact ⟨by omega,.inl (by omega)⟩
 ·right; exact ⟨by omega,.inl (by omega)⟩
 ·left; omega
 ·right; exact ⟨by omega,.inl (by omega)⟩
 ·right; exact ⟨by omega,.inr ⟨by omega,bl_trans _ _ _ h4 h6⟩⟩
theorem cmpV_tri {a b : Val} (h : ¬ cmpV a b < 0) (h2 : a ≠ b) : cmpV b a < 0:=by
 rw [cmpV_lt] at h ⊢
 by_cases h1 : a.k = b.k
 ·by_cases h3 : a.n = b.n
  ·refine .inr ⟨h1.symm,.inr ⟨h3.symm,?_⟩⟩
   cases hb : Op.bytesLess (bs a.t) (bs b.t) with
   | true=>exact absurd (.inr ⟨h1,.inr ⟨h3,hb⟩⟩) h
   | false=>
    refine bytesLess_trich _ _ hb fun e=>h2 ?_
    cases a; cases b
    simp only at h1 h3 e
    rw [h1,h3,bs_ext e]
  ·right; refine ⟨h1.symm,.inl ?_⟩
   rcases Int.lt_trichotomy a.n b.n with h4 | h4 | h4
   ·exact absurd (.inr ⟨h1,.inl h4⟩) h
   ·exact absurd h4 h3
   ·exact h4
 ·left
  rcases Int.lt_trichotomy a.k b.k with h4 | h4 | h4
  ·exact absurd (.inl h4) h
  ·exact absurd h4 h1
  ·exact h4
theorem cmpV_asym {a b : Val} (h : cmpV a b < 0) : ¬ cmpV b a < 0:=fun h2=>cmpV_irr a (cmpV_trans h h2)
def keyL (key : Int) (l : List (List Val)) : List Val:=l.map fun r=>vAt r key
def Rise (key : Int) (l : List (List Val)) : Prop:=l.Pairwise fun a b=>ltV key a b = true
theorem ltV_iff {key : Int} {a b : List Val} : ltV key a b = true↔cmpV (vAt a key) (vAt b key) < 0:=by simp [ltV]
theorem ltV_trans {key : Int} {a b c : List Val} (h : ltV key a b = true) (h2 : ltV key b c = true) : ltV key a c = true:=by
 rw [ltV_iff] at *; exact cmpV_trans h h2
theorem rise_of_adj {key : Int} : ∀ {l : List (List Val)},(∀ (j : Nat) (a b : List Val),l[j]? = some a→l[j + 1]? = some b→ltV key a b = true)→Rise key l
 | [],_=>.nil
 | [a],_=>List.pairwise_singleton _ _
 | a :: b :: l,h=>by
  have ih : Rise key (b :: l):=rise_of_adj fun j x y hx hy=>h (j + 1) x y (by simpa using hx) (by simpa using hy)
  have hab:=h 0 a b rfl rfl
  refine List.pairwise_cons.2 ⟨fun x hx=>?_,ih⟩
  rcases List.mem_cons.1 hx with rfl | hx
  ·exact hab
  ·exact ltV_trans hab ((List.pairwise_cons.1 ih).1 x hx)
theorem rise_adj {key : Int} {l : List (List Val)} (h : Rise key l) {j : Nat} {a b : List Val} (ha : l[j]? = some a) (hb : l[j + 1]? = some b) : ltV key a b = true:=by
 obtain ⟨h1,rfl⟩:=List.getElem?_eq_some_iff.1 ha
 obtain ⟨h2,rfl⟩:=List.getElem?_eq_some_iff.1 hb
 exact List.pairwise_iff_getElem.1 h j (j + 1) h1 h2 (by omega)
theorem rowsB_iff2 {c : List Dfn} {key : Int} {l : List (List Val)} : rowsB c key l = true↔(∀ r ∈ l,rowB c r = true)∧Rise key l:=by
 rw [rowsB_iff]
 constructor
 ·rintro ⟨h1,h2⟩
  refine ⟨fun r hr=>?_,rise_of_adj fun j a b ha hb=>h2 j a b (List.getElem?_eq_some_iff.1 hb).1 ha hb⟩
  obtain ⟨j,hj,rfl⟩:=List.getElem_of_mem hr
  exact h1 j _ hj (List.getElem?_eq_getElem hj)
 ·rintro ⟨h1,h2⟩
  exact ⟨fun j r _ hr=>h1 r (List.mem_of_getElem? hr),fun j a b _ ha hb=>rise_adj h2 ha hb⟩
def putR (key : Int) (l : List (List Val)) (r : List Val) : Option (List (List Val)):=
 if (l.dropWhile fun x=>ltV key x r).head?.any (fun x=>decide (cmpV (vAt x key) (vAt r key) = 0)) then none
 else some (l.takeWhile (fun x=>ltV key x r) ++ r :: l.dropWhile fun x=>ltV key x r)
def putL (key : Int) (l : List (List Val)) (rs : List (List Val)) : Option (List (List Val)):=rs.foldlM (putR key) l
section
variable {key : Int} {l rs : List (List Val)} {r : List Val}
theorem putR_new (hl : Rise key l) (hr : vAt r key ∉ keyL key l) : ∃ out,putR key l r = some out∧Rise key out∧out.Perm (r :: l):=by
 have hsplit : l.takeWhile (fun x=>ltV key x r) ++ l.dropWhile (fun x=>ltV key x r) = l:=List.takeWhile_append_dropWhile
 have hne : ∀ x ∈ l,vAt x key ≠ vAt r key:=fun x hx e=>hr (List.mem_map.2 ⟨x,hx,e⟩)
 have hd : ∀ x ∈ l.dropWhile (fun x=>ltV key x r),ltV key r x = true:=by
  cases hdw : l.dropWhile (fun x=>ltV key x r) with
  | nil=>simp
  | cons y t=>
   have hy : ltV key y r = false:=by
    have:=List.head?_dropWhile_not (fun x=>ltV key x r) l
    rw [hdw] at this
    simpa using this
   have hyl : y ∈ l:=by rw [← hsplit,hdw]; simp
   have hyr : ltV key r y = true:=ltV_iff.2 (cmpV_tri (fun h=>by rw [ltV_iff.2 h] at hy; cases hy) (hne y hyl))
   have hp : Rise key (y :: t):=by
    rw [← hdw]
    exact hl.sublist (List.dropWhile_sublist _)
   intro x hx
   rcases List.mem_cons.1 hx with rfl | hx
   ·exact hyr
   ·exact ltV_trans hyr ((List.pairwise_cons.1 hp).1 x hx)
 have ht : ∀ x ∈ l.takeWhile (fun x=>ltV key x r),ltV key x r = true:=fun x hx=>by
  have:=List.all_takeWhile (p:=fun x=>ltV key x r) (l:=l)
  exact List.all_eq_true.1 this x hx
 refine ⟨_,if_neg ?_,?_,?_⟩
 ·cases hdw : l.dropWhile (fun x=>ltV key x r) with
  | nil=>simp
  | cons y t=>
   have hyl : y ∈ l:=by rw [← hsplit,hdw]; simp
   simp only [List.head?_cons,Option.any_some,decide_eq_true_eq,cmpV_0]
   exact hne y hyl
 ·refine List.pairwise_append.2 ⟨hl.sublist (List.takeWhile_sublist _),List.pairwise_cons.2 ⟨hd,hl.sublist (List.dropWhile_sublist _)⟩,fun a ha b hb=>?_⟩
  rcases List.mem_cons.1 hb with rfl | hb
  ·exact ht a ha
  ·exact ltV_trans (ht a ha) (hd b hb)
 ·refine List.perm_middle.trans ?_
  rw [hsplit]
theorem putR_old (hl : Rise key l) (hr : vAt r key ∈ keyL key l) : putR key l r = none:=by
 have hsplit : l.takeWhile (fun x=>ltV key x r) ++ l.dropWhile (fun x=>ltV key x r) = l:=List.takeWhile_append_dropWhile
 obtain ⟨x,hx,he⟩:=List.mem_map.1 hr
 have hxr : ltV key x r = false:=by
  cases h : ltV key x r with
  | false=>rfl
  | true=>rw [ltV_iff,he] at h; exact (cmpV_irr _ h).elim
 have hxd : x ∈ l.dropWhile (fun x=>ltV key x r):=by
  rw [← hsplit] at hx
  rcases List.mem_append.1 hx with hx | hx
  ·have:=List.all_eq_true.1 (List.all_takeWhile (p:=fun x=>ltV key x r) (l:=l)) x hx
   rw [hxr] at this; cases this
  ·exact hx
 refine if_pos ?_
 cases hdw : l.dropWhile (fun x=>ltV key x r) with
 | nil=>rw [hdw] at hxd; simp at hxd
 | cons y t=>
  rw [hdw] at hxd
  simp only [List.head?_cons,Option.any_some,decide_eq_true_eq,cmpV_0]
  have hy : ltV key y r = false:=by
   have:=List.head?_dropWhile_not (fun x=>ltV key x r) l
   rw [hdw] at this
   simpa using this
  rcases List.mem_cons.1 hxd with rfl | hxt
  ·exact he
  ·have hp : Rise key (y :: t):=by
    rw [← hdw]
    exact hl.sublist (List.dropWhile_sublist _)
   have h1:=(List.pairwise_cons.1 hp).1 x hxt
   rw [ltV_iff,he,← ltV_iff] at h1
   rw [h1] at hy; cases hy
theorem keyL_perm {a b : List (List Val)} (h : a.Perm b) : (keyL key a).Perm (keyL key b):=h.map _
theorem rise_nodup (h : Rise key l) : (keyL key l).Nodup:=by
 unfold keyL List.Nodup
 rw [List.pairwise_map]
 refine h.imp fun {a b} hab e=>?_
 rw [ltV_iff,e] at hab
 exact cmpV_irr _ hab
theorem putL_some : ∀ {rs l : List (List Val)},Rise key l→(keyL key (l ++ rs)).Nodup→∃ out,putL key l rs = some out∧Rise key out∧out.Perm (l ++ rs)
 | [],l,hl,_=>⟨l,rfl,hl,by simp⟩
 | r :: rs,l,hl,hn=>by
  have h1 : vAt r key ∉ keyL key l:=fun h=>by
   unfold keyL at hn h
   rw [List.map_append,List.map_cons,List.nodup_append] at hn
   exact hn.2.2 _ h _ (List.mem_cons_self ..) rfl
  obtain ⟨o1,h2,h3,h4⟩:=putR_new hl h1
  have h5 : (o1 ++ rs).Perm (l ++ r :: rs):=((h4.append_right rs).trans (by simp)).trans List.perm_middle.symm
  obtain ⟨o2,h6,h7,h8⟩:=putL_some (rs:=rs) h3 ((keyL_perm h5).nodup_iff.2 hn)
  refine ⟨o2,?_,h7,h8.trans h5⟩
  show (putR key l r).bind _ = _
  rw [h2]
  exact h6
theorem putL_none : ∀ {rs l : List (List Val)},Rise key l→¬ (keyL key (l ++ rs)).Nodup→putL key l rs = none
 | [],l,hl,hn=>(hn (by rw [List.append_nil]; exact rise_nodup hl)).elim
 | r :: rs,l,hl,hn=>by
  show (putR key l r).bind _ = _
  by_cases h1 : vAt r key ∈ keyL key l
  ·rw [putR_old hl h1]; rfl
  ·obtain ⟨o1,h2,h3,h4⟩:=putR_new hl h1
   have h5 : (o1 ++ rs).Perm (l ++ r :: rs):=((h4.append_right rs).trans (by simp)).trans List.perm_middle.symm
   rw [h2]
   exact putL_none (rs:=rs) h3 (fun h=>hn ((keyL_perm h5).nodup_iff.1 h))
def Sorted (key : Int) (l : List (List Val)) : Prop:=l.Pairwise fun a b=>¬ cmpV (vAt b key) (vAt a key) < 0
def noEq (key : Int) (l : List (List Val)) (k : Nat) : Prop:=∀ (j : Nat) (a b : List Val),j + 1 < k→l[j]? = some a→l[j + 1]? = some b→cmpV (vAt a key) (vAt b key) ≠ 0
theorem noEq_1 (l : List (List Val)) : noEq key l 1:=fun j a b h=>by omega
theorem noEq_0 (l : List (List Val)) : noEq key l 0:=fun j a b h=>by omega
theorem noEq_s {k : Nat} {a b : List Val} (h : noEq key l k) (hk : 0 < k) (ha : l[k - 1]? = some a) (hb : l[k]? = some b) (hne : cmpV (vAt a key) (vAt b key) ≠ 0) : noEq key l (k + 1):=fun j x y hj hx hy=>by
 rcases Nat.lt_or_ge (j + 1) k with h1 | h1
 ·exact h j x y h1 hx hy
 ·obtain rfl : k = j + 1:=by omega
  rw [Nat.add_sub_cancel,hx] at ha; injection ha with ha
  rw [hy] at hb; injection hb with hb
  rw [ha,hb]; exact hne
theorem sorted_rise (h : Sorted key l) (h2 : noEq key l l.length) : Rise key l:=rise_of_adj fun j a b ha hb=>by
 have h3:=h2 j a b (List.getElem?_eq_some_iff.1 hb).1 ha hb
 obtain ⟨h4,rfl⟩:=List.getElem?_eq_some_iff.1 ha
 obtain ⟨h5,rfl⟩:=List.getElem?_eq_some_iff.1 hb
 have h6:=List.pairwise_iff_getElem.1 h j (j + 1) h4 h5 (by omega)
 rw [ltV_iff]
 exact cmpV_tri h6 fun e=>h3 (cmpV_0.2 e.symm)
theorem rise_eq {a b : List (List Val)} (ha : Rise key a) (hb : Rise key b) (h : a.Perm b) : a = b:=
 List.Perm.eq_of_pairwise (le:=fun x y=>ltV key x y = true) (fun x y _ _ h1 h2=>by rw [ltV_iff] at h1 h2; exact (cmpV_asym h1 h2).elim) ha hb h
theorem sort_some {p : List (List Val)} (hl : Rise key l) (hp : p.Perm (l ++ rs)) (hs : Sorted key p) (hn : noEq key p p.length) : putL key l rs = some p:=by
 have h1:=sorted_rise hs hn
 obtain ⟨out,h2,h3,h4⟩:=putL_some (rs:=rs) hl ((keyL_perm hp).nodup_iff.1 (rise_nodup h1))
 rw [h2,rise_eq h3 h1 (h4.trans hp.symm)]
theorem sort_none {p : List (List Val)} (hl : Rise key l) (hp : p.Perm (l ++ rs)) {j : Nat} {a b : List Val} (ha : p[j]? = some a) (hb : p[j + 1]? = some b) (he : cmpV (vAt a key) (vAt b key) = 0) : putL key l rs = none:=by
 refine putL_none hl fun hn=>?_
 have h1:=(keyL_perm hp).nodup_iff.2 hn
 obtain ⟨h4,rfl⟩:=List.getElem?_eq_some_iff.1 ha
 obtain ⟨h5,rfl⟩:=List.getElem?_eq_some_iff.1 hb
 unfold keyL List.Nodup at h1
 rw [List.pairwise_map] at h1
 exact List.pairwise_iff_getElem.1 h1 j (j + 1) h4 h5 (by omega) (cmpV_0.1 he)
end
end Go.Proofs.YtpgfhkbnngjegaaGreatDoor
