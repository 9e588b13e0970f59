/- Which stores may be. No condition. -/
import Derived.Test.YtpgfhkbnngjegaaGreatDoorW4
namespace Go.Proofs.YtpgfhkbnngjegaaGreatDoor
open Go.RowKit
set_option linter.unusedVariables false
set_option linter.unusedSimpArgs false
theorem qw50 {p : Prop} (h : p:=by
 refine ⟨?_,?_,?_⟩
 ·refine leEnv_app (by kernel_rfl) (by kernel_rfl) ?_
  repeat ((conv=>whnf); first | exact True.intro | refine ⟨.rfl,?_⟩ | refine ⟨.any,?_⟩ | refine ⟨.nil,?_⟩ | refine ⟨.int (by first | rfl | omega | (simp only [wrs]; omega)),?_⟩)
 ·repeat (first | exact LeVs.nil | ((conv=>whnf); first | exact True.intro | exact .none | exact .ext | exact .row rfl | refine .cells ?_ | refine ⟨_,_,rfl,.rfl,?_⟩ | refine ⟨_,_,rfl,.any,?_⟩ | refine ⟨_,_,rfl,.nil,?_⟩ | refine ⟨_,_,rfl,.int (by first | rfl | omega | (simp only [wrs]; omega)),?_⟩ | refine ⟨?_,?_⟩))
  done
 ·exact LeFr.nil) : p:=h
theorem qw51 {p : Prop} (h : p:=by
 try simp only [bls] at hc5
 conv=>whnf
 refine bF zqS ?_
 conv=>whnf
 refine bF zqS ?_
 conv=>whnf
 refine bF zqS ?_
 conv=>whnf
 refine bF zqS ?_
 conv=>whnf
 refine bF zqS ?_
 conv=>whnf
 refine bF zqS ?_
 conv=>whnf
 refine bF zqS ?_
 conv=>whnf
 refine bF zqS ?_
 conv=>whnf
 refine bF zqS ?_
 conv=>whnf
 refine bF zqS ?_
 conv=>whnf
 refine bF zqS ?_
 conv=>whnf
 refine bF zqS ?_
 conv=>whnf
 refine bF zqS ?_
 conv=>whnf
 refine bF zqS ?_
 conv=>whnf
 refine bF zqS ?_
 conv=>whnf
 refine bF zqS ?_
 conv=>whnf
 refine bF zqS ?_
 conv=>whnf
 refine ⟨(k + 1),⟨by omega,rowsP_s hP hr1 (by assumption) (by first | exact .inl (by omega) | exact .inr ⟨r0,hr0,lt_t hv0 hv1 (by omega)⟩)⟩,by omega,?_⟩
 exact qw50) : p:=h
theorem qw52 {p : Prop} (h : p:=by
 try simp only [bls] at hc6
 conv=>whnf
 refine ⟨(k + 1),⟨by omega,rowsP_s hP hr1 (by assumption) (by first | exact .inl (by omega) | exact .inr ⟨r0,hr0,lt_t hv0 hv1 (by omega)⟩)⟩,by omega,?_⟩
 exact qw50) : p:=h
set_option maxRecDepth 20000
def vAt (r : List Val) (i : Int) : Val:=(r[i.toNat]?).getD ⟨0,0,⟨#[]⟩⟩
theorem vAt_of {r : List Val} {i : Int} {v : Val} (h : r[i.toNat]? = some v) : vAt r i = v:=by simp [vAt,h]
def ltV (key : Int) (r0 r1 : List Val) : Bool:=decide (cmpV (vAt r0 key) (vAt r1 key) < 0)
def rowsB (c : List Dfn) (key : Int) : List (List Val)→Bool
  | []=>true
  | r :: l=>rowB c r && (match l with | []=>true | r1 :: _=>ltV key r r1) && rowsB c key l
/-- May a table be? -/
def tabB (t : Tbl) : Bool:=headB t.n t.c && decide (t.r.length ≤ 40) && rowsB t.c (keyI t.c) t.r
def rowsP (c : List Dfn) (key : Int) (l : List (List Val)) (k : Nat) : Prop:=(∀ (j : Nat) (r : List Val),j < k→l[j]? = some r→rowB c r = true)∧∀ (j : Nat) (r0 r1 : List Val),j + 1 < k→l[j]? = some r0→l[j + 1]? = some r1→ltV key r0 r1 = true
theorem rowsB_iff {c : List Dfn} {key : Int} : ∀ {l : List (List Val)},rowsB c key l = true↔rowsP c key l l.length
  | []=>by simp [rowsB,rowsP]
  | r :: l=>by
    have ih:=rowsB_iff (c:=c) (key:=key) (l:=l)
    unfold rowsB
    rw [Bool.and_eq_true,Bool.and_eq_true,ih]
    constructor
    · rintro ⟨⟨h1,h2⟩,h3,h4⟩
      refine ⟨fun j x hj hx=>?_,fun j x y hj hx hy=>?_⟩
      · cases j with
        | zero=>simp at hx; rw [← hx]; exact h1
        | succ j=>exact h3 j x (by simpa using hj) (by simpa using hx)
      · cases j with
        | zero=>
          simp at hx
          cases l with
          | nil=>simp at hy
          | cons r1 l=>simp at hy; rw [← hx,← hy]; exact h2
        | succ j=>exact h4 j x y (by simpa using hj) (by simpa using hx) (by simpa using hy)
    · rintro ⟨h1,h2⟩
      refine ⟨⟨h1 0 r (by simp) rfl,?_⟩,fun j x hj hx=>h1 (j + 1) x (by simpa using hj) (by simpa using hx),fun j x y hj hx hy=>h2 (j + 1) x y (by simpa using hj) (by simpa using hx) (by simpa using hy)⟩
      cases l with
      | nil=>rfl
      | cons r1 l=>exact h2 0 r r1 (by simp) rfl rfl
theorem rowsP_0 (c : List Dfn) (key : Int) (l : List (List Val)) : rowsP c key l 0:=⟨fun j r h=>by omega,fun j r0 r1 h=>by omega⟩
section
variable {c : List Dfn} {key : Int} {l : List (List Val)} {k : Nat} {r r0 : List Val}
theorem rowsP_s (h : rowsP c key l k) (hr : l[k]? = some r) (h1 : rowB c r = true) (h2 : k = 0∨∃ r0,l[k - 1]? = some r0∧ltV key r0 r = true) : rowsP c key l (k + 1):=by
  refine ⟨fun j x hj hx=>?_,fun j x y hj hx hy=>?_⟩
  · rcases Nat.lt_or_ge j k with h3 | h3
    · exact h.1 j x h3 hx
    · obtain rfl : j = k:=by omega
      rw [hr] at hx; injection hx with hx; rw [← hx]; exact h1
  · rcases Nat.lt_or_ge (j + 1) k with h3 | h3
    · exact h.2 j x y h3 hx hy
    · obtain rfl : k = j + 1:=by omega
      rcases h2 with h2 | ⟨r0,h2,h4⟩
      · omega
      · rw [hr] at hy; injection hy with hy
        rw [Nat.add_sub_cancel,hx] at h2; injection h2 with h2
        rw [← hy,h2]; exact h4
theorem rowsB_t (h : rowsP c key l k) (hk : l.length ≤ k) : rowsB c key l = true:=rowsB_iff.2 ⟨fun j x hj=>h.1 j x (by omega),fun j x y hj=>h.2 j x y (by omega)⟩
theorem rowsB_r (hr : l[k]? = some r) (h1 : rowB c r = false) : rowsB c key l = false:=by
  cases hg : rowsB c key l with
  | false=>rfl
  | true=>have:=(rowsB_iff.1 hg).1 k r (List.getElem?_eq_some_iff.1 hr).1 hr; rw [h1] at this; cases this
theorem rowsB_c (hk : 0 < k) (hr : l[k]? = some r) (hr0 : l[k - 1]? = some r0) (h1 : ltV key r0 r = false) : rowsB c key l = false:=by
  cases hg : rowsB c key l with
  | false=>rfl
  | true=>
    have hlt:=(List.getElem?_eq_some_iff.1 hr).1
    have:=(rowsB_iff.1 hg).2 (k - 1) r0 r (by omega) hr0 (by rw [show k - 1 + 1 = k by omega]; exact hr)
    rw [h1] at this; cases this
theorem rowB_len (h : rowB c r = true) : r.length = c.length:=by
  unfold rowB at h
  rw [Bool.and_eq_true,decide_eq_true_eq] at h
  exact h.1
theorem rowsP_len (h : rowsP c key l k) (hk : k - 1 < k) (hr0 : l[k - 1]? = some r0) : r0.length = c.length:=rowB_len (h.1 (k - 1) r0 hk hr0)
theorem lt_t {v v0 : Val} (h0 : r0[key.toNat]? = some v0) (h1 : r[key.toNat]? = some v) (h : cmpV v0 v < 0) : ltV key r0 r = true:=by
  unfold ltV
  rw [vAt_of h0,vAt_of h1]
  exact decide_eq_true h
theorem lt_f {v v0 : Val} (h0 : r0[key.toNat]? = some v0) (h1 : r[key.toNat]? = some v) (h : 0 ≤ cmpV v0 v) : ltV key r0 r = false:=by
  unfold ltV
  rw [vAt_of h0,vAt_of h1]
  exact decide_eq_false (by omega)
theorem head_key {n : ByteArray} (h : headB n c = true) : 0 ≤ keyI c∧keyI c < c.length:=by
  unfold headB at h
  simp only [Bool.and_eq_true,decide_eq_true_eq] at h
  exact ⟨h.1.2,(ixP_ge _ _).2⟩
theorem tab_h {t : Tbl} (h : headB t.n t.c = false) : tabB t = false:=by simp only [tabB,h,Bool.false_and]
theorem tab_n {t : Tbl} (h : (40 : Int) < t.r.length) : tabB t = false:=by
  have h1 : decide (t.r.length ≤ 40) = false:=decide_eq_false (by omega)
  simp only [tabB,h1,Bool.false_and,Bool.and_false]
theorem tab_r {t : Tbl} (h : rowsB t.c (keyI t.c) t.r = false) : tabB t = false:=by simp only [tabB,h,Bool.and_false]
theorem tab_t {t : Tbl} (h0 : headB t.n t.c = true) (h1 : (t.r.length : Int) ≤ 40) (h : rowsB t.c (keyI t.c) t.r = true) : tabB t = true:=by
  simp only [tabB,h0,h,decide_eq_true (show t.r.length ≤ 40 by omega),Bool.and_true]
end
set_option maxRecDepth 20000 in
theorem checkT_T (b b2 b3 : Bool) (t : Tbl) (ht : t.In) : XMeets Tryz.prog 13 [tbT b b2 b3 t] (.p (.v (.int .i64 (if tabB t = true then 0 else 221))) (nlv _)):=by
 refine XMeets.of_X tabX_ok (avs:=[.ag [.p (.v (.string (t.n))) (nlv _),.p (.sl false (t.c.map dfC)) (nl_dc _).sl,.p (.sl false (t.r.map (rwC false))) (nl_rw _ _).sl]]) [(0,.ag [.p (.v (.string (t.n))) (nlv _),.p (.sl false (t.c.map dfC)) (nl_dc _).sl,.p (.sl false (t.r.map (rwC false))) (nl_rw _ _).sl])] (by kernel_rfl) Tryz.func13 rfl (by simp [PuL,Pu,tbT,stT,tbC,rwC,vlC,dfC,pu_vl,pu_dc,pu_rw,pu_tb]) (by simp only [untagL,untag,tbT,stT,tbC,rwC,vlC,dfC,untag_vl,untag_dc,untag_rw,untag_tb]; rfl) rfl rfl ?_
 intro B w0
 conv=>whnf
 refine .ct ?_
 conv=>whnf
 refine CallG.mk (headed_T _ _ _ _ ht.n ht.c ht.cn) rfl ?_
 conv=>whnf
 refine bS (fun hc1=>?_) (fun hc1=>?_)
 ·try simp only [bls] at hc1
  conv=>whnf
  refine bT zqS ?_
  conv=>whnf
  refine bT zqS ?_
  conv=>whnf
  refine bT zqS ?_
  conv=>whnf
  refine bT zqS ?_
  conv=>whnf
  refine FinG.mk none ?_ zqR
  simp only [outs,zqL,fr_by1]
  rw [tab_h (by assumption)]
  rfl
 ·try simp only [bls] at hc1
  have hky:=head_key hc1
  conv=>whnf
  refine bF zqS ?_
  conv=>whnf
  refine bF zqS ?_
  conv=>whnf
  refine bF zqS ?_
  conv=>whnf
  refine bF zqS ?_
  conv=>whnf
  refine bS (fun hc2=>?_) (fun hc2=>?_)
  ·try simp only [bls] at hc2
   conv=>whnf
   refine FinG.mk none ?_ zqR
   simp only [outs,zqL,fr_by1]
   rw [tab_n (by omega)]
   rfl
  ·try simp only [bls] at hc2
   conv=>whnf
   refine .ct ?_
   conv=>whnf
   refine CallG.mk (key_T _ _ _ _ ht.cn) rfl ?_
   conv=>whnf
   refine XT.loop tabX_ok (Y:=Nat) [2,5,6,24,25,26,27,28,29,30,31,32,33,34,35,36,37,38,39,40,41,42,43,44,45,46,47,48,49,50,51,52,53,54] (fun k=>[(24,.p (.v (.int .i64 (k))) (nlv _))]) (fun k=>[]) (fun k=>k ≤ t.r.length∧rowsP t.c (keyI t.c) t.r k) (fun k=>t.r.length - k) 0 ⟨Nat.zero_le _,rowsP_0 _ _ _⟩ ?_ ?_
   ·exact qw50
   ·rintro k ⟨hk,hP⟩
    conv=>whnf
    refine bS (fun hc3=>?_) (fun hc3=>?_)
    ·try simp only [bls] at hc3
     conv=>whnf
     refine IdxG.map (l:=t.r) k rfl (by first | omega | (simp only [List.length_map] at *; omega)) ?_; intro r1 hr1 hnr1; have hrl1:=(ht.r _ (List.mem_of_getElem? hr1)).1
     conv=>whnf
     refine ⟨rfl,?_⟩
     conv=>whnf
     refine RegG.par 25 (by kernel_rfl) ?_
     conv=>whnf
     refine CallG.mk (fits_T _ _ _ _ _ _ ht.cn hrl1) rfl ?_
     conv=>whnf
     refine bS (fun hc4=>?_) (fun hc4=>?_)
     ·try simp only [bls] at hc4
      conv=>whnf
      refine bT zqS ?_
      conv=>whnf
      refine bT zqS ?_
      conv=>whnf
      refine bT zqS ?_
      conv=>whnf
      refine bT zqS ?_
      conv=>whnf
      refine FinG.mk none ?_ zqR
      simp only [outs,zqL,fr_by1]
      rw [tab_r (rowsB_r hr1 (by assumption))]
      rfl
     ·try simp only [bls] at hc4
      conv=>whnf
      refine bF zqS ?_
      conv=>whnf
      refine bF zqS ?_
      conv=>whnf
      refine bS (fun hc5=>?_) (fun hc5=>?_)
      ·try simp only [bls] at hc5
       conv=>whnf
       refine bT zqS ?_
       conv=>whnf
       refine bT zqS ?_
       conv=>whnf
       refine bT zqS ?_
       conv=>whnf
       refine bT zqS ?_
       conv=>whnf
       rw [show IntKind.i64.wrap ((↑k : Int) - 1) = ((↑k : Int) - 1) from wz.1 _ (by omega) (by omega)]
       refine IdxG.map (l:=t.r) (k - 1) (by omega) (by first | omega | (simp only [List.length_map] at *; omega)) ?_; intro r0 hr0 hnr0; have hl1:=rowB_len (by assumption : rowB t.c r1 = true); have hl0:=rowsP_len hP (by omega) hr0
       conv=>whnf
       refine ⟨rfl,?_⟩
       conv=>whnf
       refine bT zqS ?_
       conv=>whnf
       refine bT zqS ?_
       conv=>whnf
       refine bT zqS ?_
       conv=>whnf
       refine IdxG.map (l:=r0) (keyI t.c).toNat (by omega) (by first | omega | (simp only [List.length_map] at *; omega)) ?_; intro v0 hv0 hnv0
       conv=>whnf
       refine ⟨rfl,?_⟩
       conv=>whnf
       refine bT zqS ?_
       conv=>whnf
       refine bT zqS ?_
       conv=>whnf
       refine bT zqS ?_
       conv=>whnf
       refine bT zqS ?_
       conv=>whnf
       refine IdxG.map (l:=r1) (keyI t.c).toNat (by omega) (by first | omega | (simp only [List.length_map] at *; omega)) ?_; intro v1 hv1 hnv1
       conv=>whnf
       refine ⟨rfl,?_⟩
       conv=>whnf
       refine bT zqS ?_
       conv=>whnf
       refine bT zqS ?_
       conv=>whnf
       refine CallG.mk (compare_X _ _) rfl ?_
       conv=>whnf
       refine bT zqS ?_
       conv=>whnf
       refine bF zqS ?_
       conv=>whnf
       refine bT zqS ?_
       conv=>whnf
       refine bF zqS ?_
       conv=>whnf
       refine bS (fun hc6=>?_) (fun hc6=>?_)
       ·try simp only [bls] at hc6
        conv=>whnf
        refine FinG.mk none ?_ zqR
        simp only [outs,zqL,fr_by1]
        rw [tab_r (rowsB_c (by omega) hr1 hr0 (lt_f hv0 hv1 (by omega)))]
        rfl
       ·exact qw52
      ·exact qw51
    ·try simp only [bls] at hc3
     conv=>whnf
     refine FinG.mk none ?_ zqR
     simp only [outs,zqL,fr_by1]
     rw [tab_t (by assumption) (by omega) (rowsB_t hP (by omega))]
     rfl
set_option maxRecDepth 20000 in
theorem rightT_T (b b2 b3 : Bool) (t : Tbl) (ht : t.In) : XMeets Tryz.prog 12 [tbT b b2 b3 t] (.p (.v (.bool (tabB t))) (nlv _)):=by
 refine XMeets.of_X tabX_ok (avs:=[.ag [.p (.v (.string (t.n))) (nlv _),.p (.sl false (t.c.map dfC)) (nl_dc _).sl,.p (.sl false (t.r.map (rwC false))) (nl_rw _ _).sl]]) [(0,.ag [.p (.v (.string (t.n))) (nlv _),.p (.sl false (t.c.map dfC)) (nl_dc _).sl,.p (.sl false (t.r.map (rwC false))) (nl_rw _ _).sl])] (by kernel_rfl) Tryz.func12 rfl (by simp [PuL,Pu,tbT,stT,tbC,rwC,vlC,dfC,pu_vl,pu_dc,pu_rw,pu_tb]) (by simp only [untagL,untag,tbT,stT,tbC,rwC,vlC,dfC,untag_vl,untag_dc,untag_rw,untag_tb]; rfl) rfl rfl ?_
 intro B w0
 conv=>whnf
 refine .ct ?_
 conv=>whnf
 refine CallG.mk (columns12_T _ _ _ _ ht.n ht.c ht.cn) rfl ?_
 conv=>whnf
 refine bS (fun hc1=>?_) (fun hc1=>?_)
 ·try simp only [bls] at hc1
  conv=>whnf
  refine bT zqS ?_
  conv=>whnf
  refine bT zqS ?_
  conv=>whnf
  refine bT zqS ?_
  conv=>whnf
  refine bT zqS ?_
  conv=>whnf
  refine FinG.mk none ?_ zqR
  simp only [outs,zqL,fr_by1]
  rw [tab_h (by assumption)]
 ·try simp only [bls] at hc1
  have hky:=head_key hc1
  conv=>whnf
  refine bF zqS ?_
  conv=>whnf
  refine bF zqS ?_
  conv=>whnf
  refine bF zqS ?_
  conv=>whnf
  refine bF zqS ?_
  conv=>whnf
  refine bS (fun hc2=>?_) (fun hc2=>?_)
  ·try simp only [bls] at hc2
   conv=>whnf
   refine FinG.mk none ?_ zqR
   simp only [outs,zqL,fr_by1]
   rw [tab_n (by omega)]
  ·try simp only [bls] at hc2
   conv=>whnf
   refine .ct ?_
   conv=>whnf
   refine CallG.mk (key12_T _ _ _ _ ht.cn) rfl ?_
   conv=>whnf
   refine XT.loop tabX_ok (Y:=Nat) [2,4,5,20,21,22,23,24,25,26,27,28,29,30,31,32,33,34,35,36,37,38,39,40,41,42,43,44,45,46,47,48,49,50] (fun k=>[(20,.p (.v (.int .i64 (k))) (nlv _))]) (fun k=>[]) (fun k=>k ≤ t.r.length∧rowsP t.c (keyI t.c) t.r k) (fun k=>t.r.length - k) 0 ⟨Nat.zero_le _,rowsP_0 _ _ _⟩ ?_ ?_
   ·exact qw50
   ·rintro k ⟨hk,hP⟩
    conv=>whnf
    refine bS (fun hc3=>?_) (fun hc3=>?_)
    ·try simp only [bls] at hc3
     conv=>whnf
     refine IdxG.map (l:=t.r) k rfl (by first | omega | (simp only [List.length_map] at *; omega)) ?_; intro r1 hr1 hnr1; have hrl1:=(ht.r _ (List.mem_of_getElem? hr1)).1
     conv=>whnf
     refine ⟨rfl,?_⟩
     conv=>whnf
     refine RegG.par 25 (by kernel_rfl) ?_
     conv=>whnf
     refine CallG.mk (row12_T _ _ _ _ _ _ ht.cn hrl1) rfl ?_
     conv=>whnf
     refine bS (fun hc4=>?_) (fun hc4=>?_)
     ·try simp only [bls] at hc4
      conv=>whnf
      refine bT zqS ?_
      conv=>whnf
      refine bT zqS ?_
      conv=>whnf
      refine bT zqS ?_
      conv=>whnf
      refine bT zqS ?_
      conv=>whnf
      refine FinG.mk none ?_ zqR
      simp only [outs,zqL,fr_by1]
      rw [tab_r (rowsB_r hr1 (by assumption))]
     ·try simp only [bls] at hc4
      conv=>whnf
      refine bF zqS ?_
      conv=>whnf
      refine bF zqS ?_
      conv=>whnf
      refine bS (fun hc5=>?_) (fun hc5=>?_)
      ·try simp only [bls] at hc5
       conv=>whnf
       refine bT zqS ?_
       conv=>whnf
       refine bT zqS ?_
       conv=>whnf
       refine bT zqS ?_
       conv=>whnf
       refine bT zqS ?_
       conv=>whnf
       rw [show IntKind.i64.wrap ((↑k : Int) - 1) = ((↑k : Int) - 1) from wz.1 _ (by omega) (by omega)]
       refine IdxG.map (l:=t.r) (k - 1) (by omega) (by first | omega | (simp only [List.length_map] at *; omega)) ?_; intro r0 hr0 hnr0; have hl1:=rowB_len (by assumption : rowB t.c r1 = true); have hl0:=rowsP_len hP (by omega) hr0
       conv=>whnf
       refine ⟨rfl,?_⟩
       conv=>whnf
       refine bT zqS ?_
       conv=>whnf
       refine bT zqS ?_
       conv=>whnf
       refine bT zqS ?_
       conv=>whnf
       refine IdxG.map (l:=r0) (keyI t.c).toNat (by omega) (by first | omega | (simp only [List.length_map] at *; omega)) ?_; intro v0 hv0 hnv0
       conv=>whnf
       refine ⟨rfl,?_⟩
       conv=>whnf
       refine bT zqS ?_
       conv=>whnf
       refine bT zqS ?_
       conv=>whnf
       refine bT zqS ?_
       conv=>whnf
       refine bT zqS ?_
       conv=>whnf
       refine IdxG.map (l:=r1) (keyI t.c).toNat (by omega) (by first | omega | (simp only [List.length_map] at *; omega)) ?_; intro v1 hv1 hnv1
       conv=>whnf
       refine ⟨rfl,?_⟩
       conv=>whnf
       refine bT zqS ?_
       conv=>whnf
       refine bT zqS ?_
       conv=>whnf
       refine CallG.mk (compare5_X _ _) rfl ?_
       conv=>whnf
       refine bT zqS ?_
       conv=>whnf
       refine bF zqS ?_
       conv=>whnf
       refine bT zqS ?_
       conv=>whnf
       refine bF zqS ?_
       conv=>whnf
       refine bS (fun hc6=>?_) (fun hc6=>?_)
       ·try simp only [bls] at hc6
        conv=>whnf
        refine FinG.mk none ?_ zqR
        simp only [outs,zqL,fr_by1]
        rw [tab_r (rowsB_c (by omega) hr1 hr0 (lt_f hv0 hv1 (by omega)))]
       ·exact qw52
      ·exact qw51
    ·try simp only [bls] at hc3
     conv=>whnf
     refine FinG.mk none ?_ zqR
     simp only [outs,zqL,fr_by1]
     rw [tab_t (by assumption) (by omega) (rowsB_t hP (by omega))]
end Go.Proofs.YtpgfhkbnngjegaaGreatDoor

namespace Go.Proofs.YtpgfhkbnngjegaaGreatDoor
open Go.RowKit
set_option linter.unusedVariables false
set_option linter.unusedSimpArgs false
theorem qw60 {p : Prop} (h : p:=by
 refine ⟨?_,?_,?_⟩
 ·refine leEnv_app (by kernel_rfl) (by kernel_rfl) ?_
  repeat ((conv=>whnf); first | exact True.intro | refine ⟨.rfl,?_⟩ | refine ⟨.any,?_⟩ | refine ⟨.nil,?_⟩ | refine ⟨.int (by first | rfl | omega | (simp only [wrs]; omega)),?_⟩ | refine ⟨.tv (by first | rfl | (rw [stF_s ht1]; done) | (rw [stF_s ht1]; simp only [gt_lt]; simp_all; done) | (simp only [List.length_map]; exact congrArg (fun b=>TV.v (Value.bool b)) (decide_eq_decide.2 (by omega)))),?_⟩)
 ·repeat (first | exact LeVs.nil | ((conv=>whnf); first | exact True.intro | exact .none | exact .ext | exact .row rfl | refine .cells ?_ | refine ⟨_,_,rfl,.rfl,?_⟩ | refine ⟨_,_,rfl,.any,?_⟩ | refine ⟨_,_,rfl,.nil,?_⟩ | refine ⟨_,_,rfl,.int (by first | rfl | omega | (simp only [wrs]; omega)),?_⟩ | refine ⟨_,_,rfl,.tv (by first | rfl | (rw [stF_s ht1]; done) | (rw [stF_s ht1]; simp only [gt_lt]; simp_all; done) | (simp only [List.length_map]; exact congrArg (fun b=>TV.v (Value.bool b)) (decide_eq_decide.2 (by omega)))),?_⟩ | refine ⟨?_,?_⟩))
  done
 ·exact LeFr.nil) : p:=h
theorem qw61 {p : Prop} (h : p:=by
 refine ⟨?_,?_,?_⟩
 ·refine leEnv_app (by kernel_rfl) (by kernel_rfl) ?_
  repeat ((conv=>whnf); first | exact True.intro | refine ⟨.rfl,?_⟩ | refine ⟨.any,?_⟩ | refine ⟨.nil,?_⟩ | refine ⟨.int (by first | rfl | omega | (simp only [wrs]; omega)),?_⟩)
 ·repeat (first | exact LeVs.nil | ((conv=>whnf); first | exact True.intro | exact .none | exact .ext | exact .row rfl | refine .cells ?_ | refine ⟨_,_,rfl,.rfl,?_⟩ | refine ⟨_,_,rfl,.any,?_⟩ | refine ⟨_,_,rfl,.nil,?_⟩ | refine ⟨_,_,rfl,.int (by first | rfl | omega | (simp only [wrs]; omega)),?_⟩ | refine ⟨?_,?_⟩))
  done
 ·exact LeFr.nil) : p:=h
theorem qw62 {p : Prop} (h : p:=by
 try simp only [bls] at hc4
 conv=>whnf
 refine FinG.mk none ?_ zqR
 simp only [outs,zqL,fr_by1]
 have he:=stF_end hk (by omega)
 simp_all) : p:=h
theorem qw63 {p : Prop} (h : p:=by
 conv=>whnf
 refine bF zqS ?_
 conv=>whnf
 refine bF zqS ?_
 conv=>whnf
 refine bF zqS ?_
 conv=>whnf
 refine ⟨(k + 1),by omega,by omega,?_⟩
 exact qw60) : p:=h
theorem qw64 {p : Prop} (h : p:=by
 conv=>whnf
 refine ⟨(k + 1),⟨by omega,storP_s hP ht1 (by assumption) (by first | exact .inl (by omega) | exact .inr ⟨t0,ht0,by assumption⟩)⟩,by omega,?_⟩
 exact qw61) : p:=h
set_option maxRecDepth 20000
def ltS (a b : ByteArray) : Bool:=Op.bytesLess (bs a) (bs b)
theorem bl_asym : ∀ a b : List UInt8,Op.bytesLess a b = true→Op.bytesLess b a = false
  | _,[],h=>by simp [Op.bytesLess] at h
  | [],y :: b,h=>rfl
  | x :: a,y :: b,h=>by
    simp only [Op.bytesLess,Bool.or_eq_true,decide_eq_true_eq,Bool.and_eq_true,beq_iff_eq] at h
    simp only [Op.bytesLess,Bool.or_eq_false_iff,decide_eq_false_iff_not,Bool.and_eq_false_iff,beq_eq_false_iff_ne]
    rcases h with h | ⟨rfl,h⟩
    · have h1 : x.toNat < y.toNat:=h
      exact ⟨fun h2=>by have h2 : y.toNat < x.toNat:=h2; omega,.inl (fun e=>by rw [e] at h1; omega)⟩
    · exact ⟨fun h2=>by have h2 : x.toNat < x.toNat:=h2; omega,.inr (bl_asym a b h)⟩
theorem bl_gt (a b : List UInt8) : (!(Op.bytesLess a b || (a == b))) = Op.bytesLess b a:=by
  by_cases h : a = b
  · subst h; simp [bytesLess_irrefl]
  · cases h1 : Op.bytesLess a b with
    | true=>simp [bl_asym a b h1]
    | false=>simp [h,bytesLess_trich a b h1 h]
theorem gt_lt (a b : ByteArray) : (!(Op.bytesLess (bs a) (bs b) || bsEq a b)) = ltS b a:=bl_gt _ _
def chkS (st : Bool × ByteArray) (t : Tbl) : Bool × ByteArray:=(st.1 && tabB t && ltS st.2 t.n,t.n)
def stF (s : List Tbl) (k : Nat) : Bool × ByteArray:=(s.take k).foldl chkS (decide (s.length ≤ 4),⟨#[]⟩)
/-- May a store be? -/
def stoB (s : List Tbl) : Bool:=(stF s s.length).1
theorem stF_s {s : List Tbl} {k : Nat} {t : Tbl} (h : s[k]? = some t) : stF s (k + 1) = ((stF s k).1 && tabB t && ltS (stF s k).2 t.n,t.n):=by
  obtain ⟨hk,rfl⟩:=List.getElem?_eq_some_iff.1 h
  unfold stF
  rw [List.take_succ_eq_append_getElem hk,List.foldl_append]
  rfl
theorem stF_2 {s : List Tbl} {k : Nat} {t : Tbl} (h : s[k]? = some t) : (stF s (k + 1)).2 = t.n:=by rw [stF_s h]
theorem name_ne {s : ByteArray} (h : nameB s = true) : ltS ⟨#[]⟩ s = true:=by
  unfold ltS
  cases hb : bs s with
  | nil=>
    have : s = ⟨#[]⟩:=bs_ext (by rw [hb]; rfl)
    subst this
    exact absurd h (by decide)
  | cons x r=>rfl
theorem tab_name {t : Tbl} (h : tabB t = true) : ltS ⟨#[]⟩ t.n = true:=by
  unfold tabB headB at h
  simp only [Bool.and_eq_true] at h
  exact name_ne h.1.1.1.1.1.1
def storP (s : List Tbl) (k : Nat) : Prop:=(∀ (j : Nat) (t : Tbl),j < k→s[j]? = some t→tabB t = true)∧∀ (j : Nat) (t0 t1 : Tbl),j + 1 < k→s[j]? = some t0→s[j + 1]? = some t1→ltS t0.n t1.n = true
theorem stF_iff {s : List Tbl} : ∀ {k : Nat},k ≤ s.length→((stF s k).1 = true↔s.length ≤ 4∧storP s k)
  | 0,_=>by simp [stF,storP]
  | k + 1,hk=>by
    obtain ⟨t,ht⟩ : ∃ t,s[k]? = some t:=⟨_,List.getElem?_eq_getElem (by omega)⟩
    have ih:=stF_iff (s:=s) (k:=k) (by omega)
    rw [stF_s ht]
    simp only [Bool.and_eq_true,ih]
    constructor
    · rintro ⟨⟨⟨h1,h2,h3⟩,h4⟩,h5⟩
      refine ⟨h1,fun j x hj hx=>?_,fun j x y hj hx hy=>?_⟩
      · rcases Nat.lt_or_ge j k with h6 | h6
        · exact h2 j x h6 hx
        · obtain rfl : j = k:=by omega
          rw [ht] at hx; injection hx with hx; rw [← hx]; exact h4
      · rcases Nat.lt_or_ge (j + 1) k with h6 | h6
        · exact h3 j x y h6 hx hy
        · obtain rfl : k = j + 1:=by omega
          rw [ht] at hy; injection hy with hy
          rw [stF_2 hx] at h5
          rw [← hy]; exact h5
    · rintro ⟨h1,h2,h3⟩
      have h4:=h2 k t (by omega) ht
      refine ⟨⟨⟨h1,fun j x hj hx=>h2 j x (by omega) hx,fun j x y hj hx hy=>h3 j x y (by omega) hx hy⟩,h4⟩,?_⟩
      cases k with
      | zero=>exact tab_name h4
      | succ k=>
        obtain ⟨t0,ht0⟩ : ∃ t,s[k]? = some t:=⟨_,List.getElem?_eq_getElem (by omega)⟩
        rw [stF_2 ht0]
        exact h3 k t0 t (by omega) ht0 ht
theorem storP_0 (s : List Tbl) : storP s 0:=⟨fun j t h=>by omega,fun j t0 t1 h=>by omega⟩
section
variable {s : List Tbl} {k : Nat} {t t0 : Tbl}
theorem storP_s (h : storP s k) (ht : s[k]? = some t) (h1 : tabB t = true) (h2 : k = 0∨∃ t0,s[k - 1]? = some t0∧ltS t0.n t.n = true) : storP s (k + 1):=by
  refine ⟨fun j x hj hx=>?_,fun j x y hj hx hy=>?_⟩
  · rcases Nat.lt_or_ge j k with h3 | h3
    · exact h.1 j x h3 hx
    · obtain rfl : j = k:=by omega
      rw [ht] at hx; injection hx with hx; rw [← hx]; exact h1
  · rcases Nat.lt_or_ge (j + 1) k with h3 | h3
    · exact h.2 j x y h3 hx hy
    · obtain rfl : k = j + 1:=by omega
      rcases h2 with h2 | ⟨t0,h2,h4⟩
      · omega
      · rw [ht] at hy; injection hy with hy
        rw [Nat.add_sub_cancel,hx] at h2; injection h2 with h2
        rw [← hy,h2]; exact h4
theorem stoB_t (h : storP s k) (hk : s.length ≤ k) : stoB s = decide (s.length ≤ 4):=by
  rw [Bool.eq_iff_iff,decide_eq_true_eq]
  unfold stoB
  rw [stF_iff (Nat.le_refl _)]
  exact ⟨fun h=>h.1,fun h1=>⟨h1,fun j x hj hx=>h.1 j x (by omega) hx,fun j x y hj hx hy=>h.2 j x y (by omega) hx hy⟩⟩
theorem stoB_r (ht : s[k]? = some t) (h1 : tabB t = false) : stoB s = false:=by
  cases hg : stoB s with
  | false=>rfl
  | true=>
    have:=((stF_iff (Nat.le_refl _)).1 hg).2.1 k t (List.getElem?_eq_some_iff.1 ht).1 ht
    rw [h1] at this; cases this
theorem stoB_c (hk : 0 < k) (ht : s[k]? = some t) (ht0 : s[k - 1]? = some t0) (h1 : ltS t0.n t.n = false) : stoB s = false:=by
  cases hg : stoB s with
  | false=>rfl
  | true=>
    have hlt:=(List.getElem?_eq_some_iff.1 ht).1
    have:=((stF_iff (Nat.le_refl _)).1 hg).2.2 (k - 1) t0 t (by omega) ht0 (by rw [show k - 1 + 1 = k by omega]; exact ht)
    rw [h1] at this; cases this
theorem stF_end (h1 : k ≤ s.length) (h2 : (s.length : Int) ≤ k) : (stF s k).1 = stoB s:=by
  obtain rfl : k = s.length:=by omega
  rfl
end
set_option maxRecDepth 20000 in
theorem check_T (b b1 b2 b3 : Bool) (s : List Tbl) (hs : ∀ t ∈ s,t.In) (hn : s.length ≤ 100000) : XMeets Tryz.prog 28 [stT b b1 b2 b3 s] (.p (.v (.int .i64 (if stoB s = true then 0 else 220))) (nlv _)):=by
 refine XMeets.of_X tabX_ok (avs:=[.ag [.p (.sl false (s.map (tbC false false false))) (nl_tb _ _ _ _).sl]]) [(0,.ag [.p (.sl false (s.map (tbC false false false))) (nl_tb _ _ _ _).sl])] (by kernel_rfl) Tryz.func28 rfl (by simp [PuL,Pu,tbT,stT,tbC,rwC,vlC,dfC,pu_vl,pu_dc,pu_rw,pu_tb]) (by simp only [untagL,untag,tbT,stT,tbC,rwC,vlC,dfC,untag_vl,untag_dc,untag_rw,untag_tb]; rfl) rfl rfl ?_
 intro B w0
 conv=>whnf
 refine XT.loop tabX_ok (Y:=Nat) [3,4,6,14,15,16,17,18,19,20,21,22,23,24,25,26,27,28,29,30,31,32] (fun k=>[(14,.p (.v (.int .i64 (k))) (nlv _)),(3,.p (.v (.bool ((stF s k).1))) (nlv _)),(4,.p (.v (.string ((stF s k).2))) (nlv _))]) (fun k=>[]) (fun k=>k ≤ s.length) (fun k=>s.length - k) 0 (Nat.zero_le _) ?_ ?_
 ·exact qw60
 ·rintro k hk
  conv=>whnf
  refine bS (fun hc1=>?_) (fun hc1=>?_)
  ·try simp only [bls] at hc1
   conv=>whnf
   refine IdxG.map (l:=s) k rfl (by first | omega | (simp only [List.length_map] at *; omega)) ?_; intro t1 ht1 hnt1; have hin1:=hs _ (List.mem_of_getElem? ht1)
   conv=>whnf
   refine ⟨rfl,?_⟩
   conv=>whnf
   refine bS (fun hc2=>?_) (fun hc2=>?_)
   ·try simp only [bls] at hc2
    conv=>whnf
    refine bT zqS ?_
    conv=>whnf
    refine .ct ?_
    conv=>whnf
    refine CallG.mk (checkT_T _ _ _ _ hin1) rfl ?_
    conv=>whnf
    refine bT zqS ?_
    conv=>whnf
    refine bT zqS ?_
    conv=>whnf
    refine bS (fun hc3=>?_) (fun hc3=>?_)
    ·try simp only [bls] at hc3
     conv=>whnf
     refine bT zqS ?_
     conv=>whnf
     refine bT zqS ?_
     conv=>whnf
     refine bT zqS ?_
     conv=>whnf
     refine bT zqS ?_
     conv=>whnf
     refine ⟨(k + 1),by omega,by omega,?_⟩
     exact qw60
    ·try simp only [bls] at hc3
     conv=>whnf
     refine bF zqS ?_
     exact qw63
   ·try simp only [bls] at hc2
    exact qw63
  ·try simp only [bls] at hc1
   conv=>whnf
   refine bS (fun hc4=>?_) (fun hc4=>?_)
   ·exact qw62
   ·exact qw62
set_option maxRecDepth 20000 in
theorem right12_T (b b1 b2 b3 : Bool) (s : List Tbl) (hs : ∀ t ∈ s,t.In) (hn : s.length ≤ 100000) : XMeets Tryz.prog 27 [stT b b1 b2 b3 s] (.p (.v (.bool (stoB s))) (nlv _)):=by
 refine XMeets.of_X tabX_ok (avs:=[.ag [.p (.sl false (s.map (tbC false false false))) (nl_tb _ _ _ _).sl]]) [(0,.ag [.p (.sl false (s.map (tbC false false false))) (nl_tb _ _ _ _).sl])] (by kernel_rfl) Tryz.func27 rfl (by simp [PuL,Pu,tbT,stT,tbC,rwC,vlC,dfC,pu_vl,pu_dc,pu_rw,pu_tb]) (by simp only [untagL,untag,tbT,stT,tbC,rwC,vlC,dfC,untag_vl,untag_dc,untag_rw,untag_tb]; rfl) rfl rfl ?_
 intro B w0
 conv=>whnf
 refine XT.loop tabX_ok (Y:=Nat) [2,3,4,8,9,10,11,12,13,14,15,16,17,18,19,20,21,22,23,24,25,26,27,28,29,30,31,32] (fun k=>[(8,.p (.v (.int .i64 (k))) (nlv _))]) (fun k=>[]) (fun k=>k ≤ s.length∧storP s k) (fun k=>s.length - k) 0 ⟨Nat.zero_le _,storP_0 _⟩ ?_ ?_
 ·exact qw61
 ·rintro k ⟨hk,hP⟩
  conv=>whnf
  refine bS (fun hc1=>?_) (fun hc1=>?_)
  ·try simp only [bls] at hc1
   conv=>whnf
   refine IdxG.map (l:=s) k rfl (by first | omega | (simp only [List.length_map] at *; omega)) ?_; intro t1 ht1 hnt1; have hin1:=hs _ (List.mem_of_getElem? ht1)
   conv=>whnf
   refine ⟨rfl,?_⟩
   conv=>whnf
   refine RegG.par 19 (by kernel_rfl) ?_
   conv=>whnf
   refine CallG.mk (rightT_T _ _ _ _ hin1) rfl ?_
   conv=>whnf
   refine bS (fun hc2=>?_) (fun hc2=>?_)
   ·try simp only [bls] at hc2
    conv=>whnf
    refine bT zqS ?_
    conv=>whnf
    refine bT zqS ?_
    conv=>whnf
    refine bT zqS ?_
    conv=>whnf
    refine bT zqS ?_
    conv=>whnf
    refine FinG.mk none ?_ zqR
    simp only [outs,zqL,fr_by1]
    rw [stoB_r ht1 (by assumption)]
   ·try simp only [bls] at hc2
    conv=>whnf
    refine bF zqS ?_
    conv=>whnf
    refine bF zqS ?_
    conv=>whnf
    refine bS (fun hc3=>?_) (fun hc3=>?_)
    ·try simp only [bls] at hc3
     conv=>whnf
     refine bT zqS ?_
     conv=>whnf
     refine bT zqS ?_
     conv=>whnf
     refine bT zqS ?_
     conv=>whnf
     refine bT zqS ?_
     conv=>whnf
     rw [show IntKind.i64.wrap ((↑k : Int) - 1) = ((↑k : Int) - 1) from wz.1 _ (by omega) (by omega)]
     refine IdxG.map (l:=s) (k - 1) (by omega) (by first | omega | (simp only [List.length_map] at *; omega)) ?_; intro t0 ht0 hnt0
     conv=>whnf
     refine ⟨rfl,?_⟩
     conv=>whnf
     refine bT zqS ?_
     conv=>whnf
     refine bT zqS ?_
     conv=>whnf
     refine bT zqS ?_
     conv=>whnf
     refine bT zqS ?_
     conv=>whnf
     refine bT zqS ?_
     conv=>whnf
     refine bF zqS ?_
     conv=>whnf
     refine bT zqS ?_
     conv=>whnf
     refine bF zqS ?_
     conv=>whnf
     refine bS (fun hc4=>?_) (fun hc4=>?_)
     ·try simp only [bls] at hc4
      conv=>whnf
      refine FinG.mk none ?_ zqR
      simp only [outs,zqL,fr_by1]
      rw [stoB_c (by omega) ht1 ht0 (by assumption)]
     ·try simp only [bls] at hc4
      exact qw64
    ·try simp only [bls] at hc3
     conv=>whnf
     refine bF zqS ?_
     conv=>whnf
     refine bF zqS ?_
     conv=>whnf
     refine bF zqS ?_
     conv=>whnf
     refine bF zqS ?_
     conv=>whnf
     refine bF zqS ?_
     conv=>whnf
     refine bF zqS ?_
     conv=>whnf
     refine bF zqS ?_
     conv=>whnf
     refine bF zqS ?_
     conv=>whnf
     refine bF zqS ?_
     conv=>whnf
     refine bF zqS ?_
     conv=>whnf
     refine bF zqS ?_
     conv=>whnf
     refine bF zqS ?_
     exact qw64
  ·try simp only [bls] at hc1
   conv=>whnf
   refine FinG.mk none ?_ zqR
   simp only [outs,zqL,fr_by1]
   rw [stoB_t hP (by omega)]
   exact congrArg Value.bool (decide_eq_decide.2 (by omega))
end Go.Proofs.YtpgfhkbnngjegaaGreatDoor
