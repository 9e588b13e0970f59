/- Which tables may be. No condition. -/
import Derived.Test.YtpgfhkbnngjegaaGreatDoorTC
namespace Go.Proofs.YtpgfhkbnngjegaaGreatDoor
open Go.RowKit
set_option linter.unusedVariables false
set_option linter.unusedSimpArgs false
theorem qw40 {p : Prop} (h : p:=by
 refine ⟨?_,?_,?_⟩
 ·refine leEnv_app (by kernel_rfl) (by kernel_rfl) ?_
  repeat ((conv=>whnf); first | exact True.intro | refine ⟨.rfl,?_⟩ | refine ⟨.any,?_⟩ | refine ⟨.nil,?_⟩ | refine ⟨.int (by first | rfl | omega | (simp only [wrs]; omega)),?_⟩ | refine ⟨.tv (by first | ((try simp only [List.length_map]); exact congrArg (fun b=>TV.v (Value.bool b)) (ok0a (by assumption) (by assumption))) | ((try simp only [List.length_map]); exact congrArg (fun b=>TV.v (Value.bool b)) (ok0b (by assumption))) | ((try simp only [List.length_map]); exact congrArg (fun b=>TV.v (Value.bool b)) (ok0c (by assumption))) | (rw [okN_s hx1]; simp [colB, *]; done) | (rw [okN_s hx1,colB_lt (by assumption),Bool.and_false,Bool.false_and]) | (rw [okN_s hx1,colB_gt (by assumption),Bool.and_false,Bool.false_and]) | (rw [okN_s hx1]; simp [colB, *]; omega) | (rw [kyN_s hx1,if_pos (by assumption),wz.1 _ (by omega) (by omega)]) | (rw [kyN_s hx1,if_neg (by simp only [*]; decide),Int.add_zero]) | (rw [kyN_s hx1]; simp [*]; done)),?_⟩)
 ·repeat (first | exact LeVs.nil | ((conv=>whnf); first | exact True.intro | exact .none | exact .ext | exact .row rfl | refine .cells ?_ | refine ⟨_,_,rfl,.rfl,?_⟩ | refine ⟨_,_,rfl,.any,?_⟩ | refine ⟨_,_,rfl,.nil,?_⟩ | refine ⟨_,_,rfl,.int (by first | rfl | omega | (simp only [wrs]; omega)),?_⟩ | refine ⟨_,_,rfl,.tv (by first | ((try simp only [List.length_map]); exact congrArg (fun b=>TV.v (Value.bool b)) (ok0a (by assumption) (by assumption))) | ((try simp only [List.length_map]); exact congrArg (fun b=>TV.v (Value.bool b)) (ok0b (by assumption))) | ((try simp only [List.length_map]); exact congrArg (fun b=>TV.v (Value.bool b)) (ok0c (by assumption))) | (rw [okN_s hx1]; simp [colB, *]; done) | (rw [okN_s hx1,colB_lt (by assumption),Bool.and_false,Bool.false_and]) | (rw [okN_s hx1,colB_gt (by assumption),Bool.and_false,Bool.false_and]) | (rw [okN_s hx1]; simp [colB, *]; omega) | (rw [kyN_s hx1,if_pos (by assumption),wz.1 _ (by omega) (by omega)]) | (rw [kyN_s hx1,if_neg (by simp only [*]; decide),Int.add_zero]) | (rw [kyN_s hx1]; simp [*]; done)),?_⟩ | refine ⟨?_,?_⟩))
  done
 ·exact LeFr.nil) : p:=h
theorem qw41 {p : Prop} (h : p:=by
 conv=>whnf
 refine ⟨(k + 1,_),⟨by omega,hM.step hx1⟩,(by show t.c.length - (k + 1) < t.c.length - k; omega),?_⟩
 exact qw40) : p:=h
theorem qw42 {p : Prop} (h : p:=by
 refine ⟨?_,?_,?_⟩
 ·refine leEnv_app (by kernel_rfl) (by kernel_rfl) ?_
  repeat ((conv=>whnf); first | exact True.intro | refine ⟨.rfl,?_⟩ | refine ⟨.any,?_⟩ | refine ⟨.nil,?_⟩ | refine ⟨.int (by first | rfl | omega | (simp only [wrs]; omega)),?_⟩)
 ·repeat (first | exact LeVs.nil | ((conv=>whnf); first | exact True.intro | exact .none | exact .ext | exact .row rfl | refine .cells ?_ | refine ⟨_,_,rfl,.rfl,?_⟩ | refine ⟨_,_,rfl,.any,?_⟩ | refine ⟨_,_,rfl,.nil,?_⟩ | refine ⟨_,_,rfl,.int (by first | rfl | omega | (simp only [wrs]; omega)),?_⟩ | refine ⟨?_,?_⟩))
  done
 ·exact LeFr.nil) : p:=h
theorem qw43 {p : Prop} (h : p:=by
 conv=>whnf
 refine FinG.mk none ?_ zqR
 simp only [outs,zqL,fr_by1]
 simp_all [colB]; done) : p:=h
theorem qw44 {p : Prop} (h : p:=by
 conv=>whnf
 refine FinG.mk none ?_ zqR
 simp only [outs,zqL,fr_by1]
 rw [hd_end hk (by omega)]
 simp_all) : p:=h
theorem qw45 {p : Prop} (h : p:=by
 conv=>whnf
 refine bT zqS ?_
 conv=>whnf
 refine bT zqS ?_
 conv=>whnf
 refine bT zqS ?_
 conv=>whnf
 refine bT zqS ?_
 conv=>whnf
 refine bT zqS ?_
 conv=>whnf
 refine UpdG.mk rfl dn_str rfl (Maps.string_keyed Tryz.underlying9) Tryz.underlying133 (by simp [maxLen]; omega) (str_key Tryz.underlying9 (hin _ (List.mem_of_getElem? hx1)).n) (plainElem_bool Tryz.underlying4 true) ?_
 conv=>whnf
 refine bT zqS ?_
 exact qw41) : p:=h
theorem qw46 {p : Prop} (h : p:=by
 conv=>whnf
 refine bF zqS ?_
 conv=>whnf
 refine bT zqS ?_
 conv=>whnf
 refine bF zqS ?_
 conv=>whnf
 refine bT zqS ?_
 conv=>whnf
 refine bT zqS ?_
 conv=>whnf
 refine UpdG.mk rfl dn_str rfl (Maps.string_keyed Tryz.underlying9) Tryz.underlying133 (by simp [maxLen]; omega) (str_key Tryz.underlying9 (hin _ (List.mem_of_getElem? hx1)).n) (plainElem_bool Tryz.underlying4 true) ?_
 conv=>whnf
 refine bF zqS ?_
 exact qw41) : p:=h
theorem qw47 {p : Prop} (h : p:=by
 conv=>whnf
 refine FinG.mk none ?_ zqR
 simp only [outs,zqL,fr_by1]
 simp [headB,goodB_x hx1 hx2 (by first | assumption | exact clash_f (by assumption) (.inl (by assumption)) | exact clash_f (by assumption) (.inr (by assumption)) | exact clash_1 (by assumption) | exact clash_2 (by assumption) (by assumption))]) : p:=h
theorem qw48 {p : Prop} (h : p:=by
 conv=>whnf
 refine bT zqS ?_
 conv=>whnf
 refine bT zqS ?_
 exact qw43) : p:=h
theorem qw49 {p : Prop} (h : p:=by
 conv=>whnf
 refine ⟨(j + 1),⟨by omega,noP_s hQ hx2 (by first | assumption | exact clash_f (by assumption) (.inl (by assumption)) | exact clash_f (by assumption) (.inr (by assumption)) | exact clash_1 (by assumption) | exact clash_2 (by assumption) (by assumption))⟩,by omega,?_⟩
 exact qw42) : p:=h
theorem qw410 {p : Prop} (h : p:=by
 conv=>whnf
 refine bF zqS ?_
 conv=>whnf
 refine bF zqS ?_
 exact qw43) : p:=h
theorem qw411 {p : Prop} (h : p:=by
 conv=>whnf
 refine bT zqS ?_
 conv=>whnf
 refine bT zqS ?_
 exact qw44) : p:=h
theorem qw412 {p : Prop} (h : p:=by
 conv=>whnf
 refine bF zqS ?_
 conv=>whnf
 refine bF zqS ?_
 exact qw44) : p:=h
set_option maxRecDepth 20000
set_option maxRecDepth 20000 in
theorem column12_T (d : Dfn) (hs : d.n.size ≤ 140737488355328) : XMeets Tryz.prog 102 [.agg [.v (.string d.n),.v (.int .i64 d.t),.v (.bool d.k),.v (.bool d.nn)]] (.p (.v (.bool (colB d))) (nlv _)):=by
 refine XMeets.of_X tabX_ok (avs:=[.ag [.p (.v (.string d.n)) (nlv _),.p (.v (.int .i64 d.t)) (nlv _),.p (.v (.bool d.k)) (nlv _),.p (.v (.bool d.nn)) (nlv _)]]) [(0,.ag [.p (.v (.string d.n)) (nlv _),.p (.v (.int .i64 d.t)) (nlv _),.p (.v (.bool d.k)) (nlv _),.p (.v (.bool d.nn)) (nlv _)])] (by kernel_rfl) Tryz.func102 rfl (by simp [PuL,Pu]) (rfl) rfl rfl ?_
 intro B w0
 conv=>whnf
 refine .ct ?_
 conv=>whnf
 refine CallG.mk (name6_X _ (by first | assumption | omega)) rfl ?_
 conv=>whnf
 refine bS (fun hc1=>?_) (fun hc1=>?_)
 ·try simp only [bls] at hc1
  conv=>whnf
  refine bT zqS ?_
  conv=>whnf
  refine bT zqS ?_
  conv=>whnf
  refine bT zqS ?_
  conv=>whnf
  refine bS (fun hc2=>?_) (fun hc2=>?_)
  ·try simp only [bls] at hc2
   conv=>whnf
   refine bT zqS ?_
   conv=>whnf
   refine bT zqS ?_
   conv=>whnf
   refine bT zqS ?_
   conv=>whnf
   refine bT zqS ?_
   conv=>whnf
   refine bT zqS ?_
   conv=>whnf
   refine bT zqS ?_
   conv=>whnf
   refine bT zqS ?_
   conv=>whnf
   refine bS (fun hc3=>?_) (fun hc3=>?_)
   ·try simp only [bls] at hc3
    exact qw48
   ·try simp only [bls] at hc3
    exact qw410
  ·try simp only [bls] at hc2
   conv=>whnf
   refine bF zqS ?_
   conv=>whnf
   refine bF zqS ?_
   conv=>whnf
   refine bT zqS ?_
   conv=>whnf
   refine bF zqS ?_
   conv=>whnf
   refine bT zqS ?_
   conv=>whnf
   refine bS (fun hc4=>?_) (fun hc4=>?_)
   ·try simp only [bls] at hc4
    conv=>whnf
    refine bT zqS ?_
    conv=>whnf
    refine bT zqS ?_
    conv=>whnf
    refine bT zqS ?_
    conv=>whnf
    refine bT zqS ?_
    conv=>whnf
    refine bT zqS ?_
    conv=>whnf
    refine bS (fun hc5=>?_) (fun hc5=>?_)
    ·try simp only [bls] at hc5
     exact qw48
    ·try simp only [bls] at hc5
     exact qw410
   ·try simp only [bls] at hc4
    conv=>whnf
    refine bF zqS ?_
    conv=>whnf
    refine bF zqS ?_
    conv=>whnf
    refine bT zqS ?_
    conv=>whnf
    refine bF zqS ?_
    conv=>whnf
    refine bT zqS ?_
    conv=>whnf
    refine bS (fun hc6=>?_) (fun hc6=>?_)
    ·try simp only [bls] at hc6
     conv=>whnf
     refine bT zqS ?_
     conv=>whnf
     refine bT zqS ?_
     conv=>whnf
     refine bS (fun hc7=>?_) (fun hc7=>?_)
     ·try simp only [bls] at hc7
      conv=>whnf
      refine bT zqS ?_
      conv=>whnf
      refine bT zqS ?_
      conv=>whnf
      refine bT zqS ?_
      exact qw48
     ·try simp only [bls] at hc7
      conv=>whnf
      refine bF zqS ?_
      conv=>whnf
      refine bT zqS ?_
      conv=>whnf
      refine bF zqS ?_
      exact qw48
    ·try simp only [bls] at hc6
     conv=>whnf
     refine bF zqS ?_
     conv=>whnf
     refine bF zqS ?_
     conv=>whnf
     refine bF zqS ?_
     conv=>whnf
     refine bF zqS ?_
     conv=>whnf
     refine bF zqS ?_
     conv=>whnf
     refine FinG.mk none ?_ zqR
     simp only [outs,zqL,fr_by1]
     simp_all [colB]; omega
 ·try simp only [bls] at hc1
  conv=>whnf
  refine bF zqS ?_
  conv=>whnf
  refine bF zqS ?_
  conv=>whnf
  refine bF zqS ?_
  conv=>whnf
  refine bF zqS ?_
  conv=>whnf
  refine bF zqS ?_
  exact qw410
theorem head_1 {n : ByteArray} {c : List Dfn} (h : (c.length : Int) < 1) : headB n c = false:=by
  have h1 : decide (1 ≤ c.length) = false:=decide_eq_false (by omega)
  simp only [headB,h1,Bool.and_false,Bool.false_and]
theorem head_2 {n : ByteArray} {c : List Dfn} (h : (6 : Int) < c.length) : headB n c = false:=by
  have h1 : decide (c.length ≤ 6) = false:=decide_eq_false (by omega)
  simp only [headB,h1,Bool.and_false,Bool.false_and]
theorem head_3 {n : ByteArray} {c : List Dfn} (h : keyI c < 0) : headB n c = false:=by
  have h1 : decide (0 ≤ keyI c) = false:=decide_eq_false (by omega)
  simp only [headB,h1,Bool.and_false,Bool.false_and]
theorem head_t {n : ByteArray} {c : List Dfn} (h0 : nameB n = true) (h1 : 1 ≤ (c.length : Int)) (h2 : (c.length : Int) ≤ 6) (h3 : 0 ≤ keyI c) (h4 : goodB c = true) : headB n c = true:=by
  simp only [headB,h0,h4,decide_eq_true (show 1 ≤ c.length by omega),decide_eq_true (show c.length ≤ 6 by omega),decide_eq_true h3,Bool.and_true]
theorem clash_f {d e : Dfn} (h : ¬ bs d.n = bs e.n) (h2 : d.k = false∨e.k = false) : clashB d e = false:=by
  unfold clashB
  rw [show bsEq d.n e.n = false by rw [bsEq_f]; exact h]
  rcases h2 with h2 | h2 <;> simp [h2]
theorem clash_1 {d e : Dfn} (h : bs d.n = bs e.n) : clashB d e = true:=by
  unfold clashB
  rw [show bsEq d.n e.n = true by rw [bsEq_t]; exact h,Bool.true_or]
theorem clash_2 {d e : Dfn} (h : d.k = true) (h2 : e.k = true) : clashB d e = true:=by simp [clashB,h,h2]
set_option maxRecDepth 20000 in
theorem columns12_T (b b2 b3 : Bool) (t : Tbl) (hs : t.n.size ≤ 140737488355328) (hin : ∀ d ∈ t.c,d.In) (hn : t.c.length ≤ 100000) : XMeets Tryz.prog 55 [tbT b b2 b3 t] (.p (.v (.bool (headB t.n t.c))) (nlv _)):=by
 refine XMeets.of_X tabX_ok (avs:=[.ag [.p (.v (.string (t.n))) (nlv _),.p (.sl false (t.c.map dfC)) (nl_dc _).sl,.p (.sl false (t.r.map (rwC false))) (nl_rw _ _).sl]]) [(0,.ag [.p (.v (.string (t.n))) (nlv _),.p (.sl false (t.c.map dfC)) (nl_dc _).sl,.p (.sl false (t.r.map (rwC false))) (nl_rw _ _).sl])] (by kernel_rfl) Tryz.func55 rfl (by simp [PuL,Pu,tbT,stT,tbC,rwC,vlC,dfC,pu_vl,pu_dc,pu_rw,pu_tb]) (by simp only [untagL,untag,tbT,stT,tbC,rwC,vlC,dfC,untag_vl,untag_dc,untag_rw,untag_tb]; rfl) rfl rfl ?_
 intro B w0
 conv=>whnf
 refine .ct ?_
 conv=>whnf
 refine CallG.mk (name6_X _ hs) rfl ?_
 conv=>whnf
 refine bS (fun hc1=>?_) (fun hc1=>?_)
 ·try simp only [bls] at hc1
  conv=>whnf
  refine bT zqS ?_
  conv=>whnf
  refine bT zqS ?_
  conv=>whnf
  refine bT zqS ?_
  conv=>whnf
  refine bT zqS ?_
  conv=>whnf
  refine FinG.mk none ?_ zqR
  simp only [outs,zqL,fr_by1]
  simp_all [headB]; done
 ·try simp only [bls] at hc1
  conv=>whnf
  refine bF zqS ?_
  conv=>whnf
  refine bF zqS ?_
  conv=>whnf
  refine bF zqS ?_
  conv=>whnf
  refine bF zqS ?_
  conv=>whnf
  refine bS (fun hc2=>?_) (fun hc2=>?_)
  ·try simp only [bls] at hc2
   conv=>whnf
   refine bT zqS ?_
   conv=>whnf
   refine bT zqS ?_
   conv=>whnf
   refine bT zqS ?_
   conv=>whnf
   refine bT zqS ?_
   conv=>whnf
   refine FinG.mk none ?_ zqR
   simp only [outs,zqL,fr_by1]
   rw [head_1 (by assumption)]
  ·try simp only [bls] at hc2
   conv=>whnf
   refine bF zqS ?_
   conv=>whnf
   refine bF zqS ?_
   conv=>whnf
   refine bF zqS ?_
   conv=>whnf
   refine bF zqS ?_
   conv=>whnf
   refine bS (fun hc3=>?_) (fun hc3=>?_)
   ·try simp only [bls] at hc3
    conv=>whnf
    refine bT zqS ?_
    conv=>whnf
    refine bT zqS ?_
    conv=>whnf
    refine bT zqS ?_
    conv=>whnf
    refine FinG.mk none ?_ zqR
    simp only [outs,zqL,fr_by1]
    rw [head_2 (by assumption)]
   ·try simp only [bls] at hc3
    conv=>whnf
    refine bF zqS ?_
    conv=>whnf
    refine .ct ?_
    conv=>whnf
    refine CallG.mk (key12_T _ _ _ _ hn) rfl ?_
    conv=>whnf
    refine bF zqS ?_
    conv=>whnf
    refine bF zqS ?_
    conv=>whnf
    refine bS (fun hc4=>?_) (fun hc4=>?_)
    ·try simp only [bls] at hc4
     conv=>whnf
     refine FinG.mk none ?_ zqR
     simp only [outs,zqL,fr_by1]
     rw [head_3 (by assumption)]
    ·try simp only [bls] at hc4
     conv=>whnf
     refine XT.loop tabX_ok (Y:=Nat) [2,3,4,6,31,32,33,34,35,36,37,38,39,40,41,42,43,44,45,46,47,48,49,50,51,52,53,54,55,56,57,58,59,60,61,62] (fun k=>[(31,.p (.v (.int .i64 (k))) (nlv _))]) (fun k=>[]) (fun k=>k ≤ t.c.length∧goodP t.c k) (fun k=>t.c.length - k) 0 ⟨Nat.zero_le _,goodP_0 _⟩ ?_ ?_
     ·exact qw42
     ·rintro k ⟨hk,hP⟩
      conv=>whnf
      refine bS (fun hc5=>?_) (fun hc5=>?_)
      ·try simp only [bls] at hc5
       conv=>whnf
       refine IdxG.map (l:=t.c) _ rfl (by first | omega | (simp only [List.length_map] at *; omega)) ?_; intro x1 hx1 hnx1
       conv=>whnf
       refine ⟨rfl,?_⟩
       conv=>whnf
       refine .ct ?_
       conv=>whnf
       refine CallG.mk (column12_T _ (hin _ (List.mem_of_getElem? hx1)).n) rfl ?_
       conv=>whnf
       refine bS (fun hc6=>?_) (fun hc6=>?_)
       ·try simp only [bls] at hc6
        conv=>whnf
        refine FinG.mk none ?_ zqR
        simp only [outs,zqL,fr_by1]
        simp [headB,goodB_c hx1 (by first | assumption | exact clash_f (by assumption) (.inl (by assumption)) | exact clash_f (by assumption) (.inr (by assumption)) | exact clash_1 (by assumption) | exact clash_2 (by assumption) (by assumption))]
       ·try simp only [bls] at hc6
        conv=>whnf
        refine ⟨_,rfl,?_⟩
        conv=>whnf
        refine ⟨by omega,?_⟩
        conv=>whnf
        refine ⟨by simp only [bls]; omega,?_⟩
        conv=>whnf
        refine ⟨dc_len _,?_⟩
        conv=>whnf
        refine XT.loop tabX_ok (Y:=Nat) [2,6,44,45,46,47,48,49,50,51,52,53,54,55,56,57,58,59,60,61] (fun j=>[(44,.p (.v (.int .i64 (j))) (nlv _))]) (fun j=>[]) (fun j=>j ≤ k∧noP (fun e=>clashB e x1) (t.c.take k) j) (fun j=>k - j) 0 ⟨Nat.zero_le _,noP_0⟩ ?_ ?_
        ·exact qw42
        ·rintro j ⟨hj,hQ⟩
         conv=>whnf
         refine bS (fun hc7=>?_) (fun hc7=>?_)
         ·try simp only [bls] at hc7
          conv=>whnf
          obtain ⟨x2,hx2⟩ : ∃ x2,(t.c.take k)[j]? = some x2:=⟨_,List.getElem?_eq_getElem (by simp only [List.length_take]; omega)⟩; refine IdxG.mk (j:=j) (c:=dfC x2) (by rw [← List.map_take,List.getElem?_map,hx2]; rfl) rfl ?_
          conv=>whnf
          refine ⟨rfl,?_⟩
          conv=>whnf
          refine bS (fun hc8=>?_) (fun hc8=>?_)
          ·try simp only [bls] at hc8
           conv=>whnf
           refine bT (by simp only [bsEq_t]; assumption) ?_
           conv=>whnf
           refine bT (by simp only [bsEq_t]; assumption) ?_
           conv=>whnf
           refine bT (by simp only [bsEq_t]; assumption) ?_
           conv=>whnf
           refine bT (by simp only [bsEq_t]; assumption) ?_
           exact qw47
          ·try simp only [bls] at hc8
           conv=>whnf
           refine bF (by simp only [bsEq_f]; assumption) ?_
           conv=>whnf
           refine bF (by simp only [bsEq_f]; assumption) ?_
           conv=>whnf
           refine bS (fun hc9=>?_) (fun hc9=>?_)
           ·try simp only [bls] at hc9
            conv=>whnf
            refine bT zqS ?_
            conv=>whnf
            refine bF (by simp only [bsEq_f]; assumption) ?_
            conv=>whnf
            refine bT zqS ?_
            conv=>whnf
            refine bF (by simp only [bsEq_f]; assumption) ?_
            conv=>whnf
            refine bS (fun hc10=>?_) (fun hc10=>?_)
            ·try simp only [bls] at hc10
             exact qw47
            ·try simp only [bls] at hc10
             exact qw49
           ·try simp only [bls] at hc9
            conv=>whnf
            refine bF zqS ?_
            conv=>whnf
            refine bF (by simp only [bsEq_f]; assumption) ?_
            conv=>whnf
            refine bF zqS ?_
            conv=>whnf
            refine bF (by simp only [bsEq_f]; assumption) ?_
            exact qw49
         ·try simp only [bls] at hc7
          conv=>whnf
          refine ⟨(k + 1),⟨by omega,goodP_s hP hx1 (by first | assumption | exact clash_f (by assumption) (.inl (by assumption)) | exact clash_f (by assumption) (.inr (by assumption)) | exact clash_1 (by assumption) | exact clash_2 (by assumption) (by assumption)) (hQ.mono (by omega))⟩,by omega,?_⟩
          exact qw42
      ·try simp only [bls] at hc5
       conv=>whnf
       refine FinG.mk none ?_ zqR
       simp only [outs,zqL,fr_by1]
       rw [head_t (by assumption) (by assumption) (by assumption) (by assumption) (goodB_t hP (by omega))]
theorem zero4 (w : World) : (zeroValue 4).run Tryz.prog w = .ok (.bool false) w:=by go_simp
theorem dn_str {s : ByteArray} (C : Cx) (v : Value) (h : Dn C (.v (.string s)) v) : v = .string s:=by simpa [Dn] using h
theorem okN_0 (n : ByteArray) (c : List Dfn) : okN n c 0 = (nameB n && decide (1 ≤ c.length) && decide (c.length ≤ 6)):=by simp [okN,nmL]
theorem ok0a {n : ByteArray} {c : List Dfn} (h0 : nameB n = true) (h1 : 1 ≤ (c.length : Int)) : decide ((c.length : Int) ≤ 6) = okN n c 0:=by
  rw [okN_0,h0,decide_eq_true (show 1 ≤ c.length by omega),Bool.true_and,Bool.true_and]
  exact decide_eq_decide.2 (by omega)
theorem ok0b {n : ByteArray} {c : List Dfn} (h1 : (c.length : Int) < 1) : false = okN n c 0:=by
  rw [okN_0,decide_eq_false (show ¬ 1 ≤ c.length by omega),Bool.and_false,Bool.false_and]
theorem ok0c {n : ByteArray} {c : List Dfn} (h0 : nameB n = false) : false = okN n c 0:=by
  rw [okN_0,h0,Bool.false_and,Bool.false_and]
theorem colB_lt {d : Dfn} (h : d.t < 2) : colB d = false:=by
  unfold colB
  rw [decide_eq_false (show ¬ 2 ≤ d.t by omega),Bool.false_and,Bool.and_false,Bool.false_and]
theorem colB_gt {d : Dfn} (h : 4 < d.t) : colB d = false:=by
  unfold colB
  rw [decide_eq_false (show ¬ d.t ≤ 4 by omega),Bool.and_false,Bool.and_false,Bool.false_and]
theorem hd_end {n : ByteArray} {c : List Dfn} {k : Nat} (h1 : k ≤ c.length) (h2 : (c.length : Int) ≤ k) : headB n c = (okN n c k && decide (kyN c k = 1)):=by
  obtain rfl : k = c.length:=by omega
  exact head_eq n c
set_option maxHeartbeats 4000000 in
set_option maxRecDepth 20000 in
theorem headed_T (b b2 b3 : Bool) (t : Tbl) (hs : t.n.size ≤ 140737488355328) (hin : ∀ d ∈ t.c,d.In) (hn : t.c.length ≤ 100000) : XMeets Tryz.prog 57 [tbT b b2 b3 t] (.p (.v (.bool (headB t.n t.c))) (nlv _)):=by
 refine XMeets.of_X tabX_ok (avs:=[.ag [.p (.v (.string (t.n))) (nlv _),.p (.sl false (t.c.map dfC)) (nl_dc _).sl,.p (.sl false (t.r.map (rwC false))) (nl_rw _ _).sl]]) [(0,.ag [.p (.v (.string (t.n))) (nlv _),.p (.sl false (t.c.map dfC)) (nl_dc _).sl,.p (.sl false (t.r.map (rwC false))) (nl_rw _ _).sl])] (by kernel_rfl) Tryz.func57 rfl (by simp [PuL,Pu,tbT,stT,tbC,rwC,vlC,dfC,pu_vl,pu_dc,pu_rw,pu_tb]) (by simp only [untagL,untag,tbT,stT,tbC,rwC,vlC,dfC,untag_vl,untag_dc,untag_rw,untag_tb]; rfl) rfl rfl ?_
 intro B w0
 conv=>whnf
 refine .ct ?_
 conv=>whnf
 refine CallG.mk (name_X _ hs) rfl ?_
 conv=>whnf
 refine bS (fun hc1=>?_) (fun hc1=>?_)
 ·try simp only [bls] at hc1
  conv=>whnf
  refine bT zqS ?_
  conv=>whnf
  refine bT zqS ?_
  conv=>whnf
  refine bS (fun hc2=>?_) (fun hc2=>?_)
  ·try simp only [bls] at hc2
   conv=>whnf
   refine bT zqS ?_
   conv=>whnf
   refine bT zqS ?_
   conv=>whnf
   refine MapTG.mk Tryz.underlying133 ?_
   conv=>whnf
   refine XT.loop tabX_ok (Y:=Nat × DataW Unit) [4,5,6,8,23,27,28,29,30,31,32,33,34,35,36,37,38,39,40,41,42,43,44,45,46,47,48,49,50,51,52,53,54,55,56,57,58,59,60,61,62,63,64,65,66,67,68,69,70] (fun (k,Dm)=>[(27,.p (.v (.int .i64 ((k : Int)))) (nlv _)),(4,.p (.v (.bool (okN t.n t.c k))) (nlv _)),(6,.p (.v (.int .i64 (kyN t.c k))) (nlv _)),(5,.row 1)]) (fun (k,Dm)=>[(1,.ext (mapX Tryz.prog 9 4 k Dm))]) (fun (k,Dm)=>k ≤ t.c.length∧MetD Dm (t.c.take k)) (fun (k,Dm)=>t.c.length - k) (0,.map []) ⟨Nat.zero_le _,metD_0⟩ ?_ ?_
   ·exact qw40
   ·rintro ⟨k,Dm⟩ ⟨hk,hM⟩
    have hky:=kyN_le t.c k
    conv=>whnf
    refine bS (fun hc3=>?_) (fun hc3=>?_)
    ·try simp only [bls] at hc3
     conv=>whnf
     refine IdxG.map (l:=t.c) _ rfl (by first | omega | (simp only [List.length_map] at *; omega)) ?_; intro x1 hx1 hnx1
     conv=>whnf
     refine ⟨rfl,?_⟩
     conv=>whnf
     refine bS (fun hc4=>?_) (fun hc4=>?_)
     ·try simp only [bls] at hc4
      conv=>whnf
      refine bT zqS ?_
      conv=>whnf
      refine bT zqS ?_
      conv=>whnf
      refine .ct ?_
      conv=>whnf
      refine CallG.mk (name_X _ (hin _ (List.mem_of_getElem? hx1)).n) rfl ?_
      conv=>whnf
      refine bT zqS ?_
      conv=>whnf
      refine bS (fun hc5=>?_) (fun hc5=>?_)
      ·try simp only [bls] at hc5
       conv=>whnf
       refine bT zqS ?_
       conv=>whnf
       refine bT zqS ?_
       conv=>whnf
       refine bT zqS ?_
       conv=>whnf
       refine LookG.mk rfl dn_str (Maps.string_keyed Tryz.underlying9) Tryz.underlying133 zero4 (plainElem_bool Tryz.underlying4 false) (str_key Tryz.underlying9 (hin _ (List.mem_of_getElem? hx1)).n) (hM.u Tryz.underlying4 _) ?_
       conv=>whnf
       refine bT zqS ?_
       conv=>whnf
       refine bT zqS ?_
       conv=>whnf
       refine bS (fun hc6=>?_) (fun hc6=>?_)
       ·try simp only [bls] at hc6
        conv=>whnf
        refine bT zqS ?_
        conv=>whnf
        refine bT zqS ?_
        conv=>whnf
        refine bT zqS ?_
        conv=>whnf
        refine bS (fun hc7=>?_) (fun hc7=>?_)
        ·try simp only [bls] at hc7
         conv=>whnf
         refine bT zqS ?_
         conv=>whnf
         refine bT zqS ?_
         conv=>whnf
         refine bT zqS ?_
         conv=>whnf
         refine bS (fun hc8=>?_) (fun hc8=>?_)
         ·try simp only [bls] at hc8
          conv=>whnf
          refine bT zqS ?_
          conv=>whnf
          refine bT zqS ?_
          conv=>whnf
          refine bS (fun hc9=>?_) (fun hc9=>?_)
          ·try simp only [bls] at hc9
           exact qw45
          ·try simp only [bls] at hc9
           exact qw46
         ·try simp only [bls] at hc8
          conv=>whnf
          refine bF zqS ?_
          conv=>whnf
          refine bF zqS ?_
          conv=>whnf
          refine bF zqS ?_
          conv=>whnf
          refine bF zqS ?_
          conv=>whnf
          refine bF zqS ?_
          conv=>whnf
          refine UpdG.mk rfl dn_str rfl (Maps.string_keyed Tryz.underlying9) Tryz.underlying133 (by simp [maxLen]; omega) (str_key Tryz.underlying9 (hin _ (List.mem_of_getElem? hx1)).n) (plainElem_bool Tryz.underlying4 true) ?_
          conv=>whnf
          refine bS (fun hc10=>?_) (fun hc10=>?_)
          ·try simp only [bls] at hc10
           exact qw41
          ·try simp only [bls] at hc10
           exact qw41
        ·try simp only [bls] at hc7
         conv=>whnf
         refine bF zqS ?_
         conv=>whnf
         refine bF zqS ?_
         conv=>whnf
         refine bF zqS ?_
         conv=>whnf
         refine UpdG.mk rfl dn_str rfl (Maps.string_keyed Tryz.underlying9) Tryz.underlying133 (by simp [maxLen]; omega) (str_key Tryz.underlying9 (hin _ (List.mem_of_getElem? hx1)).n) (plainElem_bool Tryz.underlying4 true) ?_
         conv=>whnf
         refine bS (fun hc11=>?_) (fun hc11=>?_)
         ·try simp only [bls] at hc11
          exact qw41
         ·try simp only [bls] at hc11
          exact qw41
       ·try simp only [bls] at hc6
        conv=>whnf
        refine bF zqS ?_
        conv=>whnf
        refine bF zqS ?_
        conv=>whnf
        refine bF zqS ?_
        conv=>whnf
        refine UpdG.mk rfl dn_str rfl (Maps.string_keyed Tryz.underlying9) Tryz.underlying133 (by simp [maxLen]; omega) (str_key Tryz.underlying9 (hin _ (List.mem_of_getElem? hx1)).n) (plainElem_bool Tryz.underlying4 true) ?_
        conv=>whnf
        refine bS (fun hc12=>?_) (fun hc12=>?_)
        ·try simp only [bls] at hc12
         exact qw41
        ·try simp only [bls] at hc12
         exact qw41
      ·try simp only [bls] at hc5
       conv=>whnf
       refine bF zqS ?_
       conv=>whnf
       refine bF zqS ?_
       conv=>whnf
       refine bF zqS ?_
       conv=>whnf
       refine bF zqS ?_
       conv=>whnf
       refine bF zqS ?_
       conv=>whnf
       refine UpdG.mk rfl dn_str rfl (Maps.string_keyed Tryz.underlying9) Tryz.underlying133 (by simp [maxLen]; omega) (str_key Tryz.underlying9 (hin _ (List.mem_of_getElem? hx1)).n) (plainElem_bool Tryz.underlying4 true) ?_
       conv=>whnf
       refine bS (fun hc13=>?_) (fun hc13=>?_)
       ·try simp only [bls] at hc13
        exact qw41
       ·try simp only [bls] at hc13
        exact qw41
     ·try simp only [bls] at hc4
      conv=>whnf
      refine bF zqS ?_
      conv=>whnf
      refine bF zqS ?_
      conv=>whnf
      refine bF zqS ?_
      conv=>whnf
      refine UpdG.mk rfl dn_str rfl (Maps.string_keyed Tryz.underlying9) Tryz.underlying133 (by simp [maxLen]; omega) (str_key Tryz.underlying9 (hin _ (List.mem_of_getElem? hx1)).n) (plainElem_bool Tryz.underlying4 true) ?_
      conv=>whnf
      refine bS (fun hc14=>?_) (fun hc14=>?_)
      ·try simp only [bls] at hc14
       exact qw41
      ·try simp only [bls] at hc14
       exact qw41
    ·try simp only [bls] at hc3
     conv=>whnf
     refine bS (fun hc15=>?_) (fun hc15=>?_)
     ·try simp only [bls] at hc15
      exact qw411
     ·try simp only [bls] at hc15
      exact qw412
  ·try simp only [bls] at hc2
   conv=>whnf
   refine bF zqS ?_
   conv=>whnf
   refine bF zqS ?_
   conv=>whnf
   refine MapTG.mk Tryz.underlying133 ?_
   conv=>whnf
   refine XT.loop tabX_ok (Y:=Nat × DataW Unit) [4,5,6,8,23,27,28,29,30,31,32,33,34,35,36,37,38,39,40,41,42,43,44,45,46,47,48,49,50,51,52,53,54,55,56,57,58,59,60,61,62,63,64,65,66,67,68,69,70] (fun (k,Dm)=>[(27,.p (.v (.int .i64 ((k : Int)))) (nlv _)),(4,.p (.v (.bool (okN t.n t.c k))) (nlv _)),(6,.p (.v (.int .i64 (kyN t.c k))) (nlv _)),(5,.row 1)]) (fun (k,Dm)=>[(1,.ext (mapX Tryz.prog 9 4 k Dm))]) (fun (k,Dm)=>k ≤ t.c.length∧MetD Dm (t.c.take k)) (fun (k,Dm)=>t.c.length - k) (0,.map []) ⟨Nat.zero_le _,metD_0⟩ ?_ ?_
   ·exact qw40
   ·rintro ⟨k,Dm⟩ ⟨hk,hM⟩
    have hky:=kyN_le t.c k
    conv=>whnf
    refine bF (decide_eq_false (by rw [List.length_map]; omega)) ?_
    conv=>whnf
    refine bS (fun hc16=>?_) (fun hc16=>?_)
    ·try simp only [bls] at hc16
     exact qw411
    ·try simp only [bls] at hc16
     exact qw412
 ·try simp only [bls] at hc1
  conv=>whnf
  refine bF zqS ?_
  conv=>whnf
  refine bF zqS ?_
  conv=>whnf
  refine MapTG.mk Tryz.underlying133 ?_
  conv=>whnf
  refine XT.loop tabX_ok (Y:=Nat × DataW Unit) [4,5,6,8,23,27,28,29,30,31,32,33,34,35,36,37,38,39,40,41,42,43,44,45,46,47,48,49,50,51,52,53,54,55,56,57,58,59,60,61,62,63,64,65,66,67,68,69,70] (fun (k,Dm)=>[(27,.p (.v (.int .i64 ((k : Int)))) (nlv _)),(4,.p (.v (.bool (okN t.n t.c k))) (nlv _)),(6,.p (.v (.int .i64 (kyN t.c k))) (nlv _)),(5,.row 1)]) (fun (k,Dm)=>[(1,.ext (mapX Tryz.prog 9 4 k Dm))]) (fun (k,Dm)=>k ≤ t.c.length∧MetD Dm (t.c.take k)) (fun (k,Dm)=>t.c.length - k) (0,.map []) ⟨Nat.zero_le _,metD_0⟩ ?_ ?_
  ·exact qw40
  ·rintro ⟨k,Dm⟩ ⟨hk,hM⟩
   have hky:=kyN_le t.c k
   conv=>whnf
   refine bS (fun hc17=>?_) (fun hc17=>?_)
   ·try simp only [bls] at hc17
    conv=>whnf
    refine IdxG.map (l:=t.c) _ rfl (by first | omega | (simp only [List.length_map] at *; omega)) ?_; intro x1 hx1 hnx1
    conv=>whnf
    refine ⟨rfl,?_⟩
    conv=>whnf
    refine bS (fun hc18=>?_) (fun hc18=>?_)
    ·try simp only [bls] at hc18
     conv=>whnf
     refine bT zqS ?_
     conv=>whnf
     refine bT zqS ?_
     conv=>whnf
     refine .ct ?_
     conv=>whnf
     refine CallG.mk (name_X _ (hin _ (List.mem_of_getElem? hx1)).n) rfl ?_
     conv=>whnf
     refine bT zqS ?_
     conv=>whnf
     refine bS (fun hc19=>?_) (fun hc19=>?_)
     ·try simp only [bls] at hc19
      conv=>whnf
      refine bT zqS ?_
      conv=>whnf
      refine bT zqS ?_
      conv=>whnf
      refine bT zqS ?_
      conv=>whnf
      refine LookG.mk rfl dn_str (Maps.string_keyed Tryz.underlying9) Tryz.underlying133 zero4 (plainElem_bool Tryz.underlying4 false) (str_key Tryz.underlying9 (hin _ (List.mem_of_getElem? hx1)).n) (hM.u Tryz.underlying4 _) ?_
      conv=>whnf
      refine bT zqS ?_
      conv=>whnf
      refine bT zqS ?_
      conv=>whnf
      refine bS (fun hc20=>?_) (fun hc20=>?_)
      ·try simp only [bls] at hc20
       conv=>whnf
       refine bT zqS ?_
       conv=>whnf
       refine bT zqS ?_
       conv=>whnf
       refine bT zqS ?_
       conv=>whnf
       refine bS (fun hc21=>?_) (fun hc21=>?_)
       ·try simp only [bls] at hc21
        conv=>whnf
        refine bT zqS ?_
        conv=>whnf
        refine bT zqS ?_
        conv=>whnf
        refine bT zqS ?_
        conv=>whnf
        refine bS (fun hc22=>?_) (fun hc22=>?_)
        ·try simp only [bls] at hc22
         conv=>whnf
         refine bT zqS ?_
         conv=>whnf
         refine bT zqS ?_
         conv=>whnf
         refine bS (fun hc23=>?_) (fun hc23=>?_)
         ·try simp only [bls] at hc23
          exact qw45
         ·try simp only [bls] at hc23
          exact qw46
        ·try simp only [bls] at hc22
         conv=>whnf
         refine bF zqS ?_
         conv=>whnf
         refine bF zqS ?_
         conv=>whnf
         refine bF zqS ?_
         conv=>whnf
         refine bF zqS ?_
         conv=>whnf
         refine bF zqS ?_
         conv=>whnf
         refine UpdG.mk rfl dn_str rfl (Maps.string_keyed Tryz.underlying9) Tryz.underlying133 (by simp [maxLen]; omega) (str_key Tryz.underlying9 (hin _ (List.mem_of_getElem? hx1)).n) (plainElem_bool Tryz.underlying4 true) ?_
         conv=>whnf
         refine bS (fun hc24=>?_) (fun hc24=>?_)
         ·try simp only [bls] at hc24
          exact qw41
         ·try simp only [bls] at hc24
          exact qw41
       ·try simp only [bls] at hc21
        conv=>whnf
        refine bF zqS ?_
        conv=>whnf
        refine bF zqS ?_
        conv=>whnf
        refine bF zqS ?_
        conv=>whnf
        refine UpdG.mk rfl dn_str rfl (Maps.string_keyed Tryz.underlying9) Tryz.underlying133 (by simp [maxLen]; omega) (str_key Tryz.underlying9 (hin _ (List.mem_of_getElem? hx1)).n) (plainElem_bool Tryz.underlying4 true) ?_
        conv=>whnf
        refine bS (fun hc25=>?_) (fun hc25=>?_)
        ·try simp only [bls] at hc25
         exact qw41
        ·try simp only [bls] at hc25
         exact qw41
      ·try simp only [bls] at hc20
       conv=>whnf
       refine bF zqS ?_
       conv=>whnf
       refine bF zqS ?_
       conv=>whnf
       refine bF zqS ?_
       conv=>whnf
       refine UpdG.mk rfl dn_str rfl (Maps.string_keyed Tryz.underlying9) Tryz.underlying133 (by simp [maxLen]; omega) (str_key Tryz.underlying9 (hin _ (List.mem_of_getElem? hx1)).n) (plainElem_bool Tryz.underlying4 true) ?_
       conv=>whnf
       refine bS (fun hc26=>?_) (fun hc26=>?_)
       ·try simp only [bls] at hc26
        exact qw41
       ·try simp only [bls] at hc26
        exact qw41
     ·try simp only [bls] at hc19
      conv=>whnf
      refine bF zqS ?_
      conv=>whnf
      refine bF zqS ?_
      conv=>whnf
      refine bF zqS ?_
      conv=>whnf
      refine bF zqS ?_
      conv=>whnf
      refine bF zqS ?_
      conv=>whnf
      refine UpdG.mk rfl dn_str rfl (Maps.string_keyed Tryz.underlying9) Tryz.underlying133 (by simp [maxLen]; omega) (str_key Tryz.underlying9 (hin _ (List.mem_of_getElem? hx1)).n) (plainElem_bool Tryz.underlying4 true) ?_
      conv=>whnf
      refine bS (fun hc27=>?_) (fun hc27=>?_)
      ·try simp only [bls] at hc27
       exact qw41
      ·try simp only [bls] at hc27
       exact qw41
    ·try simp only [bls] at hc18
     conv=>whnf
     refine bF zqS ?_
     conv=>whnf
     refine bF zqS ?_
     conv=>whnf
     refine bF zqS ?_
     conv=>whnf
     refine UpdG.mk rfl dn_str rfl (Maps.string_keyed Tryz.underlying9) Tryz.underlying133 (by simp [maxLen]; omega) (str_key Tryz.underlying9 (hin _ (List.mem_of_getElem? hx1)).n) (plainElem_bool Tryz.underlying4 true) ?_
     conv=>whnf
     refine bS (fun hc28=>?_) (fun hc28=>?_)
     ·try simp only [bls] at hc28
      exact qw41
     ·try simp only [bls] at hc28
      exact qw41
   ·try simp only [bls] at hc17
    conv=>whnf
    refine bS (fun hc29=>?_) (fun hc29=>?_)
    ·try simp only [bls] at hc29
     exact qw411
    ·try simp only [bls] at hc29
     exact qw412
end Go.Proofs.YtpgfhkbnngjegaaGreatDoor
