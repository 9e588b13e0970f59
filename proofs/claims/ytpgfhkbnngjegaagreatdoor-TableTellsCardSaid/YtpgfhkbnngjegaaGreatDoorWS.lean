/- What can be played in time. No condition. -/
import Derived.Test.YtpgfhkbnngjegaaGreatDoorWW
namespace Go.Proofs.YtpgfhkbnngjegaaGreatDoor
open Go.RowKit
set_option linter.unusedVariables false
set_option linter.unusedSimpArgs false
theorem qws0 {p : Prop} (h : p:=by
 refine leEnv_app (by kernel_rfl) (by kernel_rfl) ?_
 repeat ((conv=>whnf); first | exact True.intro | refine ⟨.rfl,?_⟩ | refine ⟨.any,?_⟩ | refine ⟨.nil,?_⟩ | refine ⟨.int (by first | rfl | omega | (simp only [wrs]; omega)),?_⟩)) : p:=h
theorem qws1 {p : Prop} (h : p:=by
 repeat (first | exact LeVs.nil | ((conv=>whnf); first | exact True.intro | exact .none | exact .ext | exact .row rfl | exact .rowF rfl rfl rfl | refine .cells ?_ | refine ⟨_,_,rfl,.rfl,?_⟩ | refine ⟨_,_,rfl,.any,?_⟩ | refine ⟨_,_,rfl,.nil,?_⟩ | refine ⟨_,_,rfl,.int (by first | rfl | omega | (simp only [wrs]; omega)),?_⟩ | refine ⟨?_,?_⟩))
 done) : p:=h
set_option maxRecDepth 20000
def cutS (s : ByteArray) (n : Int) : ByteArray:=s.extract 0 (min (s.size : Int) n).toNat
theorem cutS_len (s : ByteArray) {n : Int} (h : 0 ≤ n) : (cutS s n).size = min s.size n.toNat:=by
  unfold cutS
  rw [ByteArray.size_extract]
  omega
def vlW (v : Val) : Val:=⟨v.k,v.n,cutS v.t 65⟩
def rwW (r : List Val) : List Val:=(r.take 7).map vlW
def rsW (l : List (List Val)) (n : Nat) : List (List Val):=(l.take n).map rwW
def dfW (d : Dfn) : Dfn:=⟨cutS d.n 30,d.t,d.k,d.nn⟩
def tbW (t : Tbl) : Tbl:=⟨cutS t.n 30,(t.c.take 7).map dfW,rsW t.r 41⟩
def stW (s : List Tbl) : List Tbl:=(s.take 5).map tbW
/-- A value that comes in. -/
def ValI (v : Val) : Prop:=I64 v.k∧I64 v.n
theorem vlW_ok {v : Val} (h : ValI v) : (vlW v).Ok:=by
  refine ⟨h.1.1,h.1.2,h.2.1,h.2.2,?_⟩
  show (cutS v.t 65).size ≤ _
  rw [cutS_len _ (by omega)]
  omega
theorem rwW_ok {r : List Val} (h : ∀ v ∈ r,ValI v) : ∀ v ∈ rwW r,v.Ok:=fun v hv=>by
  obtain ⟨u,hu,rfl⟩:=List.mem_map.1 hv
  exact vlW_ok (h u (List.mem_of_mem_take hu))
theorem rwW_len (r : List Val) : (rwW r).length ≤ 7:=by
  unfold rwW
  rw [List.length_map,List.length_take]
  omega
theorem rsW_len (l : List (List Val)) (n : Nat) : (rsW l n).length ≤ n:=by
  unfold rsW
  rw [List.length_map,List.length_take]
  omega
theorem rsW_in {l : List (List Val)} {n : Nat} (h : ∀ r ∈ l,∀ v ∈ r,ValI v) : ∀ r ∈ rsW l n,r.length ≤ 100000∧∀ v ∈ r,v.Ok:=fun r hr=>by
  obtain ⟨u,hu,rfl⟩:=List.mem_map.1 hr
  have:=rwW_len u
  exact ⟨by omega,rwW_ok (h u (List.mem_of_mem_take hu))⟩
/-- What comes in, of whatever length. -/
structure Tbl.In0 (t : Tbl) : Prop where
  c : ∀ d ∈ t.c,I64 d.t
  r : ∀ r ∈ t.r,∀ v ∈ r,ValI v
theorem tbW_in {t : Tbl} (h : t.In0) : (tbW t).In:=by
  refine ⟨?_,fun d hd=>?_,?_,rsW_in h.r,?_⟩
  · show (cutS t.n 30).size ≤ _
    rw [cutS_len _ (by omega)]; omega
  · obtain ⟨u,hu,rfl⟩:=List.mem_map.1 hd
    refine ⟨?_,h.c u (List.mem_of_mem_take hu)⟩
    show (cutS u.n 30).size ≤ _
    rw [cutS_len _ (by omega)]; omega
  · show ((t.c.take 7).map dfW).length ≤ _
    rw [List.length_map,List.length_take]; omega
  · have:=rsW_len t.r 41
    show (rsW t.r 41).length ≤ _
    omega
theorem stW_in {s : List Tbl} (h : ∀ t ∈ s,t.In0) : ∀ t ∈ stW s,t.In:=fun t ht=>by
  obtain ⟨u,hu,rfl⟩:=List.mem_map.1 ht
  exact tbW_in (h u (List.mem_of_mem_take hu))
theorem stW_len (s : List Tbl) : (stW s).length ≤ 5:=by
  unfold stW
  rw [List.length_map,List.length_take]
  omega
/-- One more of those that are taken. -/
theorem take_more {α β : Type} {f : α→β} {l : List α} {k n : Nat} {x : α} (h : l[k]? = some x) (hk : k < n) : ((l.take k).take n).map f ++ [f x] = ((l.take (k + 1)).take n).map f:=by
  obtain ⟨hk2,rfl⟩:=List.getElem?_eq_some_iff.1 h
  rw [List.take_take,List.take_take,Nat.min_eq_right (by omega),Nat.min_eq_right (by omega),List.take_succ_eq_append_getElem hk2,List.map_append]
  rfl
theorem take_same {α β : Type} {f : α→β} {l : List α} {k n : Nat} (hk : n ≤ k) : ((l.take k).take n).map f = ((l.take (k + 1)).take n).map f:=by
  rw [List.take_take,List.take_take,Nat.min_eq_left hk,Nat.min_eq_left (by omega)]
theorem take_end {α β : Type} {f : α→β} {l : List α} {k n : Nat} (h : k ≤ l.length) (h2 : (l.length : Int) ≤ k) : ((l.take k).take n).map f = (l.take n).map f:=by
  rw [List.take_of_length_le (l:=l) (by omega)]
set_option maxRecDepth 20000 in
theorem value12_T (v : Val) : XMeets Tryz.prog 72 [valT v] (.ag [.p (.v (.int .i64 (v.k))) (nlv _),.p (.v (.int .i64 (v.n))) (nlv _),.p (.v (.string (cutS v.t 65))) (nlv _)]):=by
 refine XMeets.of_X tabX_ok (avs:=[valY v]) [(0,valY v)] (by kernel_rfl) Tryz.func72 rfl (by simp [PuL,Pu,valT]) (rfl) rfl rfl ?_
 intro B w0
 conv=>whnf
 refine ⟨_,(Int.toNat_of_nonneg (by omega)).symm,?_⟩
 conv=>whnf
 refine ⟨by omega,?_⟩
 conv=>whnf
 refine ⟨by omega,?_⟩
 conv=>whnf
 refine FinG.mk none ?_ zqR
 simp only [outs,zqL,fr_by1,fr_rw,fr_tb,fr_dc,fr_vl,fr_cl,tblZ,List.map_nil,wk_len]
 rfl
theorem rw_more {l : List Val} {k : Nat} {v : Val} (h : l[k]? = some v) (hk : k < 7) : (((l.take k).take 7).map vlW).map vlC ++ [[.v (.int .i64 v.k),.v (.int .i64 v.n),.v (.string (cutS v.t 65))]] = (((l.take (k + 1)).take 7).map vlW).map vlC:=by
  rw [← take_more h hk,List.map_append]; rfl
theorem rw_same {l : List Val} {k : Nat} (hk : 7 ≤ k) : (((l.take k).take 7).map vlW).map vlC = (((l.take (k + 1)).take 7).map vlW).map vlC:=by rw [take_same hk]
theorem rw_end {l : List Val} {k : Nat} (h : k ≤ l.length) (h2 : (l.length : Int) ≤ k) : (((l.take k).take 7).map vlW).map vlC = (rwW l).map vlC:=by rw [take_end h h2]; rfl
theorem rs_more {l : List (List Val)} {k n : Nat} {v : List Val} (h : l[k]? = some v) (hk : k < n) : (((l.take k).take n).map rwW).map (rwC true) ++ [[.sl true ((rwW v).map vlC)]] = (((l.take (k + 1)).take n).map rwW).map (rwC true):=by
  rw [← take_more h hk,List.map_append]; rfl
theorem rs_same {l : List (List Val)} {k n : Nat} (hk : n ≤ k) : (((l.take k).take n).map rwW).map (rwC true) = (((l.take (k + 1)).take n).map rwW).map (rwC true):=by rw [take_same hk]
theorem rs_end {l : List (List Val)} {k n : Nat} (h : k ≤ l.length) (h2 : (l.length : Int) ≤ k) : (((l.take k).take n).map rwW).map (rwC true) = (rsW l n).map (rwC true):=by rw [take_end h h2]; rfl
theorem dw_more {l : List Dfn} {k : Nat} {v : Dfn} (h : l[k]? = some v) (hk : k < 7) : (((l.take k).take 7).map dfW).map dfC ++ [[.v (.string (cutS v.n 30)),.v (.int .i64 v.t),.v (.bool v.k),.v (.bool v.nn)]] = (((l.take (k + 1)).take 7).map dfW).map dfC:=by
  rw [← take_more h hk,List.map_append]; rfl
theorem dw_one {l : List Dfn} {v : Dfn} (h : l[0]? = some v) : [[.v (.string (cutS v.n 30)),.v (.int .i64 v.t),.v (.bool v.k),.v (.bool v.nn)]] = ((l.take 1).map dfW).map dfC:=by
  cases l with
  | nil=>simp at h
  | cons x l=>simp at h; subst h; rfl
theorem dw_one2 {l : List Dfn} {v : Dfn} (h : l[0]? = some v) : [[.v (.string (cutS v.n 30)),.v (.int .i64 v.t),.v (.bool v.k),.v (.bool v.nn)]] = (((l.take (0 + 1)).take 7).map dfW).map dfC:=by
  rw [dw_one h,List.take_take]; rfl
theorem dw_same {l : List Dfn} {k : Nat} (hk : 7 ≤ k) : (((l.take k).take 7).map dfW).map dfC = (((l.take (k + 1)).take 7).map dfW).map dfC:=by rw [take_same hk]
theorem dw_end {l : List Dfn} {k : Nat} (h : k ≤ l.length) (h2 : (l.length : Int) ≤ k) : (((l.take k).take 7).map dfW).map dfC = ((l.take 7).map dfW).map dfC:=by rw [take_end h h2]
theorem tw_more {l : List Tbl} {k : Nat} {v : Tbl} (h : l[k]? = some v) (hk : k < 5) : (((l.take k).take 5).map tbW).map (tbC true true true) ++ [tbC true true true (tbW v)] = (((l.take (k + 1)).take 5).map tbW).map (tbC true true true):=by
  rw [← take_more h hk,List.map_append]; rfl
theorem tw_same {l : List Tbl} {k : Nat} (hk : 5 ≤ k) : (((l.take k).take 5).map tbW).map (tbC true true true) = (((l.take (k + 1)).take 5).map tbW).map (tbC true true true):=by rw [take_same hk]
theorem tk_len {α : Type} (l : List α) (k n : Nat) : ((l.take k).take n).length ≤ n:=by simp only [List.length_take]; omega
set_option maxRecDepth 20000 in
theorem row_T (b : Bool) (l : List Val) (hn : l.length ≤ 9223372036854775807) : XMeets Tryz.prog 32 [.sl b (l.map vlC)] (.ow 42 3 ((rwW l).map vlC) (nl_vl _)):=by
 refine XMeets.of_XM [(2,.p (.v (.bool true)) (nlv _))] tabX_ok (avs:=[.p (.sl false (l.map vlC)) (nl_vl _).sl]) [(0,.p (.sl false (l.map vlC)) (nl_vl _).sl)] (by kernel_rfl) Tryz.func32 rfl (by simp [PuL,Pu,tbT,stT,tbC,rwC,vlC,dfC,pu_vl,pu_dc,pu_rw,pu_tb]) (by simp only [untagL,untag,tbT,stT,tbC,rwC,vlC,dfC,untag_vl,untag_dc,untag_rw,untag_tb]; rfl) rfl rfl ?_
 intro B w0
 conv=>whnf
 refine XT.nilr 3 42 3 rfl rfl ?_
 conv=>whnf
 refine XT.pass tabX_ok ?_
 conv=>whnf
 refine XT.pass tabX_ok ?_
 conv=>whnf
 refine XT.loop tabX_ok (Y:=Nat) [3,4,5,8,9,10,11,12,13,14,15,16,17,18,19,20] (fun k=>[(8,.p (.v (.int .i64 (k))) (nlv _)),(3,.row 0)]) (fun k=>[(0,.row 42 3 ((((l.take k).take 7).map vlW).map vlC) (nl_vl _))]) (fun k=>k ≤ l.length) (fun k=>l.length - k) 0 (Nat.zero_le _) ?_ ?_
 ·refine ⟨?_,?_,?_⟩
  ·exact qws0
  ·exact qws1
  ·exact LeFr.same (by kernel_rfl)
 ·rintro k hk
  conv=>whnf
  refine bS (fun hc1=>?_) (fun hc1=>?_)
  ·try simp only [bls] at hc1
   conv=>whnf
   refine IdxG.map (l:=l) _ rfl (by first | omega | (simp only [List.length_map] at *; omega)) ?_; intro v1 hv1 hnv1
   conv=>whnf
   refine ⟨rfl,?_⟩
   conv=>whnf
   refine bS (fun hc2=>?_) (fun hc2=>?_)
   ·try simp only [bls] at hc2
    conv=>whnf
    refine .ct ?_
    conv=>whnf
    refine CallG.mk (value12_T _) rfl ?_
    conv=>whnf
    refine ⟨ApOk.lit rfl,?_⟩
    conv=>whnf
    refine ⟨by have:=tk_len l k 7; simp only [List.length_append,List.length_map,List.length_cons,List.length_nil]; omega,?_⟩
    conv=>whnf
    refine ⟨(k + 1),by omega,by omega,?_⟩
    refine ⟨?_,?_,?_⟩
    ·exact qws0
    ·repeat (first | exact LeVs.nil | ((conv=>whnf); first | exact True.intro | exact .none | exact .ext | exact .row rfl | exact .rowF rfl rfl rfl | exact .row (rw_more hv1 (by omega)) | refine .cells ?_ | refine ⟨_,_,rfl,.rfl,?_⟩ | refine ⟨_,_,rfl,.any,?_⟩ | refine ⟨_,_,rfl,.nil,?_⟩ | refine ⟨_,_,rfl,.int (by first | rfl | omega | (simp only [wrs]; omega)),?_⟩ | refine ⟨?_,?_⟩))
     done
    ·exact LeFr.same (by kernel_rfl)
   ·try simp only [bls] at hc2
    conv=>whnf
    refine ⟨(k + 1),by omega,by omega,?_⟩
    refine ⟨?_,?_,?_⟩
    ·exact qws0
    ·repeat (first | exact LeVs.nil | ((conv=>whnf); first | exact True.intro | exact .none | exact .ext | exact .row rfl | exact .rowF rfl rfl rfl | exact .row (rw_same (by omega)) | refine .cells ?_ | refine ⟨_,_,rfl,.rfl,?_⟩ | refine ⟨_,_,rfl,.any,?_⟩ | refine ⟨_,_,rfl,.nil,?_⟩ | refine ⟨_,_,rfl,.int (by first | rfl | omega | (simp only [wrs]; omega)),?_⟩ | refine ⟨?_,?_⟩))
     done
    ·exact LeFr.same (by kernel_rfl)
  ·try simp only [bls] at hc1
   conv=>whnf
   refine FinG.mk (some 0) ?_ (by rintro _ ⟨⟩; trivial)
   simp only [outs,zqL,fr_by1,fr_rw,fr_tb,fr_dc,fr_vl,fr_cl,tblZ,List.map_nil,wk_len,fr_vl,fr_rw,fr_dc,fr_tb]
   rw [rw_end hk (by omega)]
set_option maxRecDepth 20000 in
theorem rows_T (b b2 : Bool) (l : List (List Val)) (n : Nat) (hn : l.length ≤ 9223372036854775807) (hr : ∀ r ∈ l,r.length ≤ 9223372036854775807) (h0 : n ≤ 100) : XMeets Tryz.prog 18 [.sl b (l.map (rwC b2)),.v (.int .i64 (n : Int))] (.ow 38 1 ((rsW l n).map (rwC true)) (nl_rw _ _)):=by
 refine XMeets.of_XM [(2,.p (.v (.bool true)) (nlv _))] tabX_ok (avs:=[.p (.sl false (l.map (rwC false))) (nl_rw _ _).sl,.p (.v (.int .i64 (n : Int))) (nlv _)]) [(0,.p (.sl false (l.map (rwC false))) (nl_rw _ _).sl),(1,.p (.v (.int .i64 (n : Int))) (nlv _))] (by kernel_rfl) Tryz.func18 rfl (by simp [PuL,Pu,tbT,stT,tbC,rwC,vlC,dfC,pu_vl,pu_dc,pu_rw,pu_tb]) (by simp only [untagL,untag,tbT,stT,tbC,rwC,vlC,dfC,untag_vl,untag_dc,untag_rw,untag_tb]; rfl) rfl rfl ?_
 intro B w0
 conv=>whnf
 refine XT.nilr 5 38 1 rfl rfl ?_
 conv=>whnf
 refine XT.pass tabX_ok ?_
 conv=>whnf
 refine XT.pass tabX_ok ?_
 conv=>whnf
 refine XT.loop tabX_ok (Y:=Nat) [5,6,7,10,11,12,13,14,15,16,17,18,19,20,21,22,23] (fun k=>[(10,.p (.v (.int .i64 (k))) (nlv _)),(5,.row 0)]) (fun k=>[(0,.row 38 1 ((((l.take k).take n).map rwW).map (rwC true)) (nl_rw _ _))]) (fun k=>k ≤ l.length) (fun k=>l.length - k) 0 (Nat.zero_le _) ?_ ?_
 ·refine ⟨?_,?_,?_⟩
  ·exact qws0
  ·repeat (first | exact LeVs.nil | ((conv=>whnf); first | exact True.intro | exact .none | exact .ext | exact .row rfl | exact .rowF rfl rfl rfl | exact .row ((by simp)) | refine .cells ?_ | refine ⟨_,_,rfl,.rfl,?_⟩ | refine ⟨_,_,rfl,.any,?_⟩ | refine ⟨_,_,rfl,.nil,?_⟩ | refine ⟨_,_,rfl,.int (by first | rfl | omega | (simp only [wrs]; omega)),?_⟩ | refine ⟨?_,?_⟩))
   done
  ·exact LeFr.same (by kernel_rfl)
 ·rintro k hk
  conv=>whnf
  refine bS (fun hc1=>?_) (fun hc1=>?_)
  ·try simp only [bls] at hc1
   conv=>whnf
   refine IdxG.map (l:=l) k rfl (by first | omega | (simp only [List.length_map] at *; omega)) ?_; intro r1 hr1 hnr1; have hrl1:=hr _ (List.mem_of_getElem? hr1)
   conv=>whnf
   refine ⟨rfl,?_⟩
   conv=>whnf
   refine bS (fun hc2=>?_) (fun hc2=>?_)
   ·try simp only [bls] at hc2
    conv=>whnf
    refine .ct ?_
    conv=>whnf
    refine CallG.mk (row_T _ _ (by first | assumption | omega)) rfl ?_
    conv=>whnf
    refine ⟨ApOk.lit rfl,?_⟩
    conv=>whnf
    refine ⟨by have:=tk_len l k n; simp only [List.length_append,List.length_map,List.length_cons,List.length_nil]; omega,?_⟩
    conv=>whnf
    refine ⟨(k + 1),by omega,by omega,?_⟩
    refine ⟨?_,?_,?_⟩
    ·exact qws0
    ·repeat (first | exact LeVs.nil | ((conv=>whnf); first | exact True.intro | exact .none | exact .ext | exact .row rfl | exact .rowF rfl rfl rfl | exact .row (rs_more hr1 (by omega)) | refine .cells ?_ | refine ⟨_,_,rfl,.rfl,?_⟩ | refine ⟨_,_,rfl,.any,?_⟩ | refine ⟨_,_,rfl,.nil,?_⟩ | refine ⟨_,_,rfl,.int (by first | rfl | omega | (simp only [wrs]; omega)),?_⟩ | refine ⟨?_,?_⟩))
     done
    ·exact LeFr.same (by kernel_rfl)
   ·try simp only [bls] at hc2
    conv=>whnf
    refine ⟨(k + 1),by omega,by omega,?_⟩
    refine ⟨?_,?_,?_⟩
    ·exact qws0
    ·repeat (first | exact LeVs.nil | ((conv=>whnf); first | exact True.intro | exact .none | exact .ext | exact .row rfl | exact .rowF rfl rfl rfl | exact .row (rs_same (by omega)) | refine .cells ?_ | refine ⟨_,_,rfl,.rfl,?_⟩ | refine ⟨_,_,rfl,.any,?_⟩ | refine ⟨_,_,rfl,.nil,?_⟩ | refine ⟨_,_,rfl,.int (by first | rfl | omega | (simp only [wrs]; omega)),?_⟩ | refine ⟨?_,?_⟩))
     done
    ·exact LeFr.same (by kernel_rfl)
  ·try simp only [bls] at hc1
   conv=>whnf
   refine FinG.mk (some 0) ?_ (by rintro _ ⟨⟩; trivial)
   simp only [outs,zqL,fr_by1,fr_rw,fr_tb,fr_dc,fr_vl,fr_cl,tblZ,List.map_nil,wk_len,fr_vl,fr_rw,fr_dc,fr_tb]
   rw [rs_end hk (by omega)]
set_option maxRecDepth 20000 in
theorem one_T (b b2 b3 : Bool) (t : Tbl) (hc : t.c.length ≤ 9223372036854775807) (hn : t.r.length ≤ 9223372036854775807) (hr : ∀ r ∈ t.r,r.length ≤ 9223372036854775807) : XMeets Tryz.prog 11 [tbT b b2 b3 t] (.ag [.p (.v (.string (cutS t.n 30))) (nlv _),.p (.sl true ((tbW t).c.map dfC)) (nl_dc _).sl,.p (.sl true ((tbW t).r.map (rwC true))) (nl_rw _ _).sl]):=by
 refine XMeets.of_X tabX_ok (avs:=[.ag [.p (.v (.string (t.n))) (nlv _),.p (.sl false (t.c.map dfC)) (nl_dc _).sl,.p (.sl false (t.r.map (rwC false))) (nl_rw _ _).sl]]) [(0,.ag [.p (.v (.string (t.n))) (nlv _),.p (.sl false (t.c.map dfC)) (nl_dc _).sl,.p (.sl false (t.r.map (rwC false))) (nl_rw _ _).sl])] (by kernel_rfl) Tryz.func11 rfl (by simp [PuL,Pu,tbT,stT,tbC,rwC,vlC,dfC,pu_vl,pu_dc,pu_rw,pu_tb]) (by simp only [untagL,untag,tbT,stT,tbC,rwC,vlC,dfC,untag_vl,untag_dc,untag_rw,untag_tb]; rfl) rfl rfl ?_
 intro B w0
 conv=>whnf
 refine RegG.par 12 (by kernel_rfl) ?_
 conv=>whnf
 refine ⟨_,(Int.toNat_of_nonneg (by omega)).symm,?_⟩
 conv=>whnf
 refine ⟨by omega,?_⟩
 conv=>whnf
 refine ⟨by omega,?_⟩
 conv=>whnf
 refine CallG.mk (rows_T _ _ _ 41 (by assumption) (by assumption) (by omega)) rfl ?_
 conv=>whnf
 refine XT.loopN tabX_ok (Y:=Nat) [4,5,20,21,22,23,24,25,26,27,28,29,30,31,32,33,34,35,36,37,38,39,40,41] (fun k=>[(20,.p (.v (.int .i64 (k))) (nlv _))]) (fun k=>[(3,match k with | 0=>.cells 25 [.p (.v (.string (cutS t.n 30))) (nlv _),.p .nil_ nlnil,.row 2] | k + 1=>.cells 25 [.p (.v (.string (cutS t.n 30))) (nlv _),.row 6,.row 2])]) (fun k=>match k with | 0=>[] | k + 1=>[.cells 94 [.any,.any,.any,.any],.row 94 4 (((t.c.take 1).map dfW).map dfC) (nl_dc _),.row 94 4 ((((t.c.take (k + 1)).take 7).map dfW).map dfC) (nl_dc _)]) (fun k=>k ≤ t.c.length) (fun k=>t.c.length - k) 0 (Nat.zero_le _) ?_ ?_
 ·refine ⟨?_,?_,?_⟩
  ·exact qws0
  ·exact qws1
  ·exact LeFr.nil
 ·rintro k hk
  rcases k with _ | k
  ·conv=>whnf
   refine bS (fun hc1=>?_) (fun hc1=>?_)
   ·try simp only [bls] at hc1
    conv=>whnf
    refine IdxG.map (l:=t.c) _ rfl (by first | omega | (simp only [List.length_map] at *; omega)) ?_; intro d1 hd1 hnd1
    conv=>whnf
    refine ⟨rfl,?_⟩
    conv=>whnf
    refine ⟨_,(Int.toNat_of_nonneg (by omega)).symm,?_⟩
    conv=>whnf
    refine ⟨by omega,?_⟩
    conv=>whnf
    refine ⟨by omega,?_⟩
    conv=>whnf
    refine ⟨ApOk.lit rfl,?_⟩
    conv=>whnf
    refine ⟨by simp only [List.length_map,List.length_append,beN_len,List.length_cons,List.length_nil,List.length_replicate,List.length_drop]; omega,?_⟩
    conv=>whnf
    refine ⟨(0 + 1),by omega,by omega,?_⟩
    refine ⟨?_,?_,?_⟩
    ·exact qws0
    ·repeat (first | exact LeVs.nil | ((conv=>whnf); first | exact True.intro | exact .none | exact .ext | exact .row rfl | exact .rowF rfl rfl rfl | exact .row ((dw_one hd1)) | exact .row ((dw_one2 hd1)) | exact .row ((dw_more hd1 (by omega))) | exact .row ((dw_same (by omega))) | refine .cells ?_ | refine ⟨_,_,rfl,.rfl,?_⟩ | refine ⟨_,_,rfl,.any,?_⟩ | refine ⟨_,_,rfl,.nil,?_⟩ | refine ⟨_,_,rfl,.int (by first | rfl | omega | (simp only [wrs]; omega)),?_⟩ | refine ⟨?_,?_⟩))
     done
    ·exact LeFr.nil
   ·try simp only [bls] at hc1
    conv=>whnf
    refine FinG.mk none ?_ zqR
    simp only [outs,zqL,fr_by1,fr_rw,fr_tb,fr_dc,fr_vl,fr_cl,tblZ,List.map_nil,wk_len,fr_vl,fr_rw,fr_dc,fr_tb]
    have h0 : t.c = []:=List.eq_nil_of_length_eq_zero (by omega)
    exact ⟨by simp [tbW,h0],⟨_,_,rfl⟩,by simp⟩
  ·conv=>whnf
   refine bS (fun hc2=>?_) (fun hc2=>?_)
   ·try simp only [bls] at hc2
    conv=>whnf
    refine IdxG.map (l:=t.c) _ rfl (by first | omega | (simp only [List.length_map] at *; omega)) ?_; intro d1 hd1 hnd1
    conv=>whnf
    refine ⟨rfl,?_⟩
    conv=>whnf
    refine bS (fun hc3=>?_) (fun hc3=>?_)
    ·try simp only [bls] at hc3
     conv=>whnf
     refine ⟨_,(Int.toNat_of_nonneg (by omega)).symm,?_⟩
     conv=>whnf
     refine ⟨by omega,?_⟩
     conv=>whnf
     refine ⟨by omega,?_⟩
     conv=>whnf
     refine ⟨ApOk.lit rfl,?_⟩
     conv=>whnf
     refine ⟨by have:=tk_len t.c (k + 1) 7; simp only [List.length_append,List.length_map,List.length_cons,List.length_nil]; omega,?_⟩
     conv=>whnf
     refine ⟨(k + 1 + 1),by omega,by omega,?_⟩
     refine ⟨?_,?_,?_⟩
     ·exact qws0
     ·repeat (first | exact LeVs.nil | ((conv=>whnf); first | exact True.intro | exact .none | exact .ext | exact .row rfl | exact .rowF rfl rfl rfl | exact .row ((dw_more hd1 (by omega))) | refine .cells ?_ | refine ⟨_,_,rfl,.rfl,?_⟩ | refine ⟨_,_,rfl,.any,?_⟩ | refine ⟨_,_,rfl,.nil,?_⟩ | refine ⟨_,_,rfl,.int (by first | rfl | omega | (simp only [wrs]; omega)),?_⟩ | refine ⟨?_,?_⟩))
      done
     ·exact LeFr.nil
    ·try simp only [bls] at hc3
     conv=>whnf
     refine ⟨(k + 1 + 1),by omega,by omega,?_⟩
     refine ⟨?_,?_,?_⟩
     ·exact qws0
     ·repeat (first | exact LeVs.nil | ((conv=>whnf); first | exact True.intro | exact .none | exact .ext | exact .row rfl | exact .rowF rfl rfl rfl | exact .row ((dw_same (by omega))) | refine .cells ?_ | refine ⟨_,_,rfl,.rfl,?_⟩ | refine ⟨_,_,rfl,.any,?_⟩ | refine ⟨_,_,rfl,.nil,?_⟩ | refine ⟨_,_,rfl,.int (by first | rfl | omega | (simp only [wrs]; omega)),?_⟩ | refine ⟨?_,?_⟩))
      done
     ·exact LeFr.nil
   ·try simp only [bls] at hc2
    conv=>whnf
    refine FinG.mk none ?_ zqR
    simp only [outs,zqL,fr_by1,fr_rw,fr_tb,fr_dc,fr_vl,fr_cl,tblZ,List.map_nil,wk_len,fr_vl,fr_rw,fr_dc,fr_tb]
    exact ⟨⟨⟨_,_,congrArg _ (dw_end hk (by omega))⟩,by simp⟩,⟨_,_,rfl⟩,by simp⟩
end Go.Proofs.YtpgfhkbnngjegaaGreatDoor
