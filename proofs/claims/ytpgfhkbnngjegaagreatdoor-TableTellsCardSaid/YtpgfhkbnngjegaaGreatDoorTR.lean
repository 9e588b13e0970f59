/- How two values stand to one another: raw walks that say what is made and drawn. No condition. -/
import Derived.Test.YtpgfhkbnngjegaaGreatDoorPar
import Derived.Test.YtpgfhkbnngjegaaGreatDoorTD
import Derived.Test.YtpgfhkbnngjegaaGreatDoorBase
import Derived.Sort.Grow
import Derived.Shelf.SlSortCmp.NoneTotal
namespace Go.Proofs.YtpgfhkbnngjegaaGreatDoor
open Go.RowKit
section
variable {R : World→World→Prop} {P : Program} {ops : Array Oper} {Q : Exit→Act→World→Prop}
def StepParR (R : World→World→Prop) (P : Program) (ops : Array Oper) (Q : Exit→Act→World→Prop) (a0 : Act) (w0 : World) (ds : List Tmp) (al : Nat→Bool) (Φ : Nat→Value→World→Prop) (i : Nat) (o : Oper) : Prop:=
 ∀ (x : Nat→Value) (w : World),R w0 w→(∀ e ∈ o.after.toList,Region.binds .any e = true→Φ e.on (x e.on) w) →
  ∀ K : Act→World→Prop,(∀ v w',Φ i v w'→R w w'→(al i = true→∀ g,ptrBlock v = some g→w.heap.size ≤ g∧g < w'.heap.size)→K ((frameOf a0 ds x).put o.dst v) w') →
   if Region.wanted o (yielded ops (frameOf a0 ds x).tmps) = true then o.wp P (frameOf a0 ds x) w K Q else K ((frameOf a0 ds x).put o.dst undef) w
def StepsParR (R : World→World→Prop) (P : Program) (ops : Array Oper) (Q : Exit→Act→World→Prop) (a0 : Act) (w0 : World) (ds : List Tmp) (al : Nat→Bool) (Φ : Nat→Value→World→Prop) : List Oper→Nat→Prop
 | [],_=>True
 | o :: l,i=>StepParR R P ops Q a0 w0 ds al Φ i o∧StepsParR R P ops Q a0 w0 ds al Φ l (i + 1)
theorem stepsParR_at {a0 : Act} {w0 : World} {ds : List Tmp} {al : Nat→Bool} {Φ : Nat→Value→World→Prop} : ∀ (l : List Oper) (k i : Nat) (o : Oper),StepsParR R P ops Q a0 w0 ds al Φ l k→l[i]? = some o→StepParR R P ops Q a0 w0 ds al Φ (k + i) o
 | [],_,_,_,_,h=>by simp at h
 | o' :: l,k,0,o,h,ho=>by
  simp only [List.getElem?_cons_zero,Option.some.injEq] at ho
  subst ho
  exact h.1
 | o' :: l,k,i + 1,o,h,ho=>by
  have:=stepsParR_at l (k + 1) i o h.2 (by simpa using ho)
  rwa [show k + 1 + i = k + (i + 1) by omega] at this
theorem wpAny_parR {l : List Oper} {a : Act} {w : World} (n : Nat) (ds : List Tmp) (al : Nat→Bool) (Φ : Nat→Value→World→Prop) (hrefl : R w w.drew) (htrans : ∀ a b c,R a b→R b c→R a c) (hsize : ∀ a b : World,R a b→a.heap.size ≤ b.heap.size) (hm : P.follows .mixedOrders = true)
  (hB : (backB l.toArray && decide (n ≤ l.length) && dstsB (l.take n) ds) = true)
  (hno : ∀ listed,HeadInv .any l.toArray n listed→(∃ i,i < n∧listed.getD i true = false)→∀ t,n ≤ t→t ∉ Region.ready .any l.toArray listed)
  (hstab : ∀ i v w1 w2,Φ i v w1→R w1 w2→Φ i v w2)
  (hsteps : StepsParR R P l.toArray Q a w ds al Φ (l.take n) 0)
  (hfin : ∀ (x : Nat→Value) (w' : World),R w w'→(∀ i,i < n→Φ i (x i) w')→(∀ i j,i < n→j < n→al i = true→al j = true→i ≠ j→∀ g,ptrBlock (x i) = some g→ptrBlock (x j) ≠ some g)→wpAny P .any l.toArray Q (l.length - n) (headOf n l.length) (frameOf a ds x) w') :
  wpAny P .any l.toArray Q l.toArray.size (Array.replicate l.toArray.size false) a w.drew:=by
 simp only [Bool.and_eq_true,decide_eq_true_eq,dstsB] at hB
 obtain ⟨⟨hb,hn⟩,hds,hnd⟩:=hB
 have hlen : ds.length = n:=by
  have:=congrArg List.length hds
  simp at this
  omega
 have inv0 : HeadInv .any l.toArray n (Array.replicate l.toArray.size false):=
  ⟨by simp,fun j oj _ hl=>(by rw [getD_replicate_false] at hl; cases hl),fun t _ ht=>getD_in (by simpa using ht) (getD_replicate_false _ _)⟩
 have hn' : n ≤ l.toArray.size:=by simpa using hn
 have key:=wpAny_inv (P:=P) (ops:=l.toArray) (Q:=Q) (n:=n) hb hn' hno
  (fun listed a' w'=>R w w'∧∃ x : Nat→Value,a' = frameOf a ds x∧(∀ i,i < n→listed.getD i false = true→Φ i (x i) w')∧(∀ i,i < n→listed.getD i false = true→al i = true→∀ g,ptrBlock (x i) = some g→g < w'.heap.size)∧(∀ i j,i < n→j < n→listed.getD i false = true→listed.getD j false = true→al i = true→al j = true→i ≠ j→∀ g,ptrBlock (x i) = some g→ptrBlock (x j) ≠ some g))
  (fun listed a' w' i inv hI hi hl hdeps=>by
   obtain ⟨hbw,x,rfl,hx,hlt,hne⟩:=hI
   have hil : i < l.length:=by omega
   have ho : l.toArray[i]? = some l[i]:=by simp [hil]
   have hst:=stepsParR_at (l.take n) 0 i l[i] hsteps (by simp [hi,hil])
   rw [Nat.zero_add] at hst
   have hd : (l[i]).dst = some (ds[i]'(by omega)):=by
    have h1 : ((l.take n).map (·.dst))[i]? = (ds.map some)[i]?:=by rw [hds]
    simp [hi,hil,show i < ds.length by omega] at h1
    exact h1
   have hds2 : ds[i]? = some (ds[i]'(by omega)):=by simp [show i < ds.length by omega]
   refine wpOp_step ho fun K hK=>hst x w' hbw (fun e he hbe=>hx e.on (by have:=backB_spec hb ho e (by simpa using he) hbe; omega) (hdeps _ ho e (by simpa using he) hbe)) K (fun v w'' hv hb2 hfr=>?_)
   refine hK _ _ ⟨htrans _ _ _ hbw hb2,upd x i v,?_,fun j hj hlj=>?_,fun j hj hlj haj g hg=>?_,fun j k hj hk hlj hlk haj hak hjk g hgj hgk=>?_⟩
   ·rw [hd]
    unfold frameOf Act.put
    simp only
    have:=slots_put x v ds 0 i a.tmps _ hnd hds2
    rw [Nat.zero_add] at this
    rw [this]
   ·unfold upd
    by_cases hji : j = i
    ·subst hji; rw [if_pos rfl]; exact hv
    ·rw [if_neg hji]
     rw [getD_set_ne false (fun e=>hji e.symm)] at hlj
     exact hstab j _ _ _ (hx j hj hlj) hb2
   ·unfold upd at hg
    by_cases hji : j = i
    ·subst hji; rw [if_pos rfl] at hg; exact (hfr haj g hg).2
    ·rw [if_neg hji] at hg
     rw [getD_set_ne false (fun e=>hji e.symm)] at hlj
     exact Nat.lt_of_lt_of_le (hlt j hj hlj haj g hg) (hsize _ _ hb2)
   ·unfold upd at hgj hgk
    by_cases hji : j = i
    ·have hki : ¬ k = i:=fun e=>hjk (hji.trans e.symm)
     subst hji
     rw [if_pos rfl] at hgj
     rw [if_neg hki] at hgk
     rw [getD_set_ne false (fun e=>hki e.symm)] at hlk
     have h1:=(hfr haj g hgj).1
     have h2:=hlt k hk hlk hak g hgk
     omega
    ·rw [if_neg hji] at hgj
     rw [getD_set_ne false (fun e=>hji e.symm)] at hlj
     by_cases hki : k = i
     ·subst hki
      rw [if_pos rfl] at hgk
      have h1:=(hfr hak g hgk).1
      have h2:=hlt j hj hlj haj g hgj
      omega
     ·rw [if_neg hki] at hgk
      rw [getD_set_ne false (fun e=>hki e.symm)] at hlk
      exact hne j k hj hk hlj hlk haj hak hjk g hgj hgk)
  (fun listed a' w' inv hall hI=>by
   obtain ⟨hbw,x,rfl,hx,hlt,hne⟩:=hI
   have:=headOf_eq hn' inv hall
   subst this
   have hl : ∀ i,i < n→(headOf n l.toArray.size).getD i false = true:=fun i hi=>by
    have h1:=hall i hi
    have h2 : i < (headOf n l.toArray.size).size:=by rw [inv.size]; omega
    simp only [Array.getD,h2,dite_true] at h1 ⊢
    exact h1
   have:=hfin x w' hbw (fun i hi=>hx i hi (hl i hi)) (fun i j hi hj hai haj hij=>hne i j hi hj (hl i hi) (hl j hj) hai haj hij)
   simpa using this)
  (leftOf n (Array.replicate l.toArray.size false)) _ a w.drew inv0 rfl
  ⟨hrefl,fun i=>a.tmps.getD (ds.getD i 0) undef,by unfold frameOf; rw [slots_self]; intro j d hj; simp [hj],fun i _ hl=>by (rw [getD_replicate_false] at hl; cases hl),fun i _ hl=>by (rw [getD_replicate_false] at hl; cases hl),fun i _ _ _ hl=>by (rw [getD_replicate_false] at hl; cases hl)⟩
 have hleft : leftOf n (Array.replicate l.toArray.size false) = n:=by
  unfold leftOf
  rw [List.filter_eq_self.2]
  ·simp
  ·intro i hi
   rw [List.mem_range] at hi
   have : i < l.length:=by omega
   simp [this]
 rw [hleft,show n + (l.toArray.size - n) = l.toArray.size by omega] at key
 exact key
theorem wp_region_parR {id : Nat} {l : List Oper} {a : Act} {w : World} (n : Nat) (ds : List Tmp) (al : Nat→Bool) (Φ : Nat→Value→World→Prop) (hrefl : R w w.drew) (htrans : ∀ a b c,R a b→R b c→R a c) (hsize : ∀ a b : World,R a b→a.heap.size ≤ b.heap.size) (hm : P.follows .mixedOrders = true)
  (hB : (backB l.toArray && decide (n ≤ l.length) && dstsB (l.take n) ds) = true)
  (hno : ∀ listed,HeadInv .any l.toArray n listed→(∃ i,i < n∧listed.getD i true = false)→∀ t,n ≤ t→t ∉ Region.ready .any l.toArray listed)
  (hstab : ∀ i v w1 w2,Φ i v w1→R w1 w2→Φ i v w2)
  (hsteps : StepsParR R P l.toArray Q a w ds al Φ (l.take n) 0)
  (hfin : ∀ (x : Nat→Value) (w' : World),R w w'→(∀ i,i < n→Φ i (x i) w')→(∀ i j,i < n→j < n→al i = true→al j = true→i ≠ j→∀ g,ptrBlock (x i) = some g→ptrBlock (x j) ≠ some g)→wpAny P .any l.toArray Q (l.length - n) (headOf n l.length) (frameOf a ds x) w') :
  (Code.region id l.toArray true).wp P Q a w:=wp_region_any hm (wpAny_parR n ds al Φ hrefl htrans hsize hm hB hno hstab hsteps hfin)
end
section
variable {R : World→World→Prop} {P : Program} {Q : Exit→Act→World→Prop} {id : Nat} {l : List Oper} {a : Act} {w : World}
theorem wp_region_parR_all (n : Nat) (ds : List Tmp) (al : Nat→Bool) (Φ : Nat→Value→World→Prop) (hrefl : R w w.drew) (htrans : ∀ a b c,R a b→R b c→R a c) (hsize : ∀ a b : World,R a b→a.heap.size ≤ b.heap.size) (hm : P.follows .mixedOrders = true) (hB : (backB l.toArray && decide (n = l.length) && dstsB l ds) = true)
  (hstab : ∀ i v w1 w2,Φ i v w1→R w1 w2→Φ i v w2)
  (hsteps : StepsParR R P l.toArray Q a w ds al Φ l 0)
  (hfin : ∀ (x : Nat→Value) (w' : World),R w w'→(∀ i,i < n→Φ i (x i) w')→(∀ i j,i < n→j < n→al i = true→al j = true→i ≠ j→∀ g,ptrBlock (x i) = some g→ptrBlock (x j) ≠ some g)→Q .normal (frameOf a ds x) w') :
  (Code.region id l.toArray true).wp P Q a w:=by
 simp only [Bool.and_eq_true,decide_eq_true_eq] at hB
 obtain ⟨⟨hb,rfl⟩,hd⟩:=hB
 refine wp_region_parR l.length ds al Φ hrefl htrans hsize hm (by simp [hb,hd]) (fun listed _ _ t ht hr=>?_) hstab (by simpa using hsteps) (fun x w' hb hx hne=>?_)
 ·obtain ⟨_,o,ho,_⟩:=mem_ready.1 hr
  have:=(Array.getElem?_eq_some_iff.1 ho).1
  simp at this
  omega
 ·rw [Nat.sub_self]
  refine ⟨?_,hfin x w' hb hx hne⟩
  rw [List.eq_nil_iff_forall_not_mem]
  intro t hr
  obtain ⟨hl,o,ho,_⟩:=mem_ready.1 hr
  have:=(Array.getElem?_eq_some_iff.1 ho).1
  have hlt : t < l.length:=by simpa using this
  have hg : (headOf l.length l.length)[t]? = some true:=by simp [headOf,List.getElem?_replicate,hlt]
  rw [Array.getD_eq_getD_getElem?] at hl
  simp only [List.size_toArray,hg,Option.getD_some] at hl
  cases hl
end
end Go.Proofs.YtpgfhkbnngjegaaGreatDoor

namespace Go.Proofs.YtpgfhkbnngjegaaGreatDoor
open Go.RowKit Go.Shelf Go.Sort
set_option linter.unusedVariables false
set_option linter.unusedSimpArgs false
set_option maxRecDepth 20000
def GQ (a b : World) : Prop:=∃ q os,b = grow (a.drewN q) os
theorem binOp_gtrS (t : TypeId) (a b : ByteArray) : binOp .gtr t (.string a) (.string b) = pure (.bool !(Op.bytesLess a.toList b.toList || a.toList == b.toList)):=by simp [binOp,Op.stringOp]
section
variable {a b c w : World}
theorem GQ.refl (w : World) : GQ w w:=⟨0,#[],by rw [grow_empty]; rfl⟩
theorem GQ.drew : GQ w w.drew:=⟨1,#[],by rw [grow_empty]; rfl⟩
theorem GQ.drewN (w : World) (n : Nat) : GQ w (w.drewN n):=⟨n,#[],by rw [grow_empty]⟩
theorem GQ.alloc (w : World) (o : Obj) : GQ w (w.alloc o):=⟨0,#[o],alloc_eq_grow _ _⟩
theorem GQ.trans (h : GQ a b) (h2 : GQ b c) : GQ a c:=by
 obtain ⟨q,os,rfl⟩:=h
 obtain ⟨q2,os2,rfl⟩:=h2
 refine ⟨q + q2,os ++ os2,?_⟩
 rw [← grow_grow,← World.drewN_drewN]
 rfl
theorem GQ.size (h : GQ a b) : a.heap.size ≤ b.heap.size:=by
 obtain ⟨q,os,rfl⟩:=h
 simp [grow]
theorem GQ.below (h : GQ a b) : Below a.heap.size a b:=by
 refine ⟨?_,?_,?_,h.size,fun k hk=>?_⟩ <;> obtain ⟨q,os,rfl⟩:=h
 ·rfl
 ·rfl
 ·rfl
 ·show (a.heap ++ os)[k]? = _
  rw [Array.getElem?_append_left hk]
end
attribute [local go_sem] binOp_gtrS
set_option maxHeartbeats 1000000 in
theorem nanQ_i (x : Int) (w : World) : Calls Tryz.prog 144 #[.int .i64 x] w fun e w'=>e = .returned (.bool false)∧w' = w:=by
 go_enter Tryz.func144,Tryz.ntmps144
 go_wp2
 go_ret
 simp
set_option maxHeartbeats 1000000 in
theorem cmpQ_i (x y : Int) (w : World) : Calls Tryz.prog 106 #[.int .i64 x,.int .i64 y] w fun e w'=>e = .returned (.int .i64 (cmpI x y))∧w' = w:=by
 have hn:=fun z W=>nanQ_i z W
 go_enter Tryz.func106,Tryz.ntmps106
 go_wp2_with (go_at_call 144; refine (hn _ _).mono ?_; rintro e w' ⟨rfl,rfl⟩)
 all_goals (go_ret; simp_all [cmpI]; try omega)
set_option maxHeartbeats 1000000 in
theorem nanQ_j (x : Int) (w : World) : Calls Tryz.prog 145 #[.int .i64 x] w fun e w'=>e = .returned (.bool false)∧w' = w:=by
 go_enter Tryz.func145,Tryz.ntmps145
 go_wp2
 go_ret
 simp
set_option maxHeartbeats 1000000 in
theorem cmpQ_j (x y : Int) (w : World) : Calls Tryz.prog 107 #[.int .i64 x,.int .i64 y] w fun e w'=>e = .returned (.int .i64 (cmpI x y))∧w' = w:=by
 have hn:=fun z W=>nanQ_j z W
 go_enter Tryz.func107,Tryz.ntmps107
 go_wp2_with (go_at_call 145; refine (hn _ _).mono ?_; rintro e w' ⟨rfl,rfl⟩)
 all_goals (go_ret; simp_all [cmpI]; try omega)
set_option maxHeartbeats 1000000 in
theorem nanQ_s (x : ByteArray) (w : World) : Calls Tryz.prog 146 #[.string x] w fun e w'=>e = .returned (.bool false)∧w' = w:=by
 go_enter Tryz.func146,Tryz.ntmps146
 go_wp2
 go_ret
 simp
set_option maxHeartbeats 1000000 in
theorem cmpQ_s (x y : ByteArray) (w : World) : Calls Tryz.prog 108 #[.string x,.string y] w fun e w'=>e = .returned (.int .i64 (cmpS (bs x) (bs y)))∧w' = w:=by
 have hn:=fun z W=>nanQ_s z W
 go_enter Tryz.func108,Tryz.ntmps108
 go_wp2_with (go_at_call 146; refine (hn _ _).mono ?_; rintro e w' ⟨rfl,rfl⟩)
 all_goals (go_ret; simp only [bs_eq] at *; unfold cmpS; simp_all)
def PhiC (bx bY : Nat) (x y : Int × Int × ByteArray) (i : Nat) (v : Value) (w : World) : Prop:=match i with
 | 0=>v = .pointer (some ⟨bx,0,none⟩)
 | 1=>v = .int .i64 x.1
 | 2=>v = .pointer (some ⟨bY,0,none⟩)
 | 3=>v = .int .i64 y.1
 | 4=>v = .int .i64 (cmpI x.1 y.1)
 | 5=>v = .pointer (some ⟨bx,1,none⟩)
 | 6=>v = .int .i64 x.2.1
 | 7=>v = .pointer (some ⟨bY,1,none⟩)
 | 8=>v = .int .i64 y.2.1
 | 9=>v = .int .i64 (cmpI x.2.1 y.2.1)
 | 10=>v = .pointer (some ⟨bx,2,none⟩)
 | 11=>v = .string x.2.2
 | 12=>v = .pointer (some ⟨bY,2,none⟩)
 | 13=>v = .string y.2.2
 | 14=>v = .int .i64 (cmpS (bs x.2.2) (bs y.2.2))
 | 15=>∃ g,v = .slice (some ⟨g,0,none⟩) 3 3∧Blk w g 3 #[.int .i64 (cmpI x.1 y.1),.int .i64 (cmpI x.2.1 y.2.1),.int .i64 (cmpS (bs x.2.2) (bs y.2.2))]
 | 16=>v = .int .i64 (orN [cmpI x.1 y.1,cmpI x.2.1 y.2.1,cmpS (bs x.2.2) (bs y.2.2)])
 | _=>v = .int .i64 (orN [cmpI x.1 y.1,cmpI x.2.1 y.2.1,cmpS (bs x.2.2) (bs y.2.2)])
theorem phiC_stab (bx bY : Nat) (x y : Int × Int × ByteArray) : ∀ i v w1 w2,PhiC bx bY x y i v w1→GQ w1 w2→PhiC bx bY x y i v w2:=fun i v w1 w2 h hr=>by
 unfold PhiC at h ⊢
 split at h <;> first | exact h | skip
 obtain ⟨g,h1,h2⟩:=h
 exact ⟨g,h1,h2.below hr.below⟩
set_option maxHeartbeats 1000000 in
theorem orQ (x y z : Int) (g : Nat) (w : World) (h : Blk w g 3 #[.int .i64 x,.int .i64 y,.int .i64 z]) : Calls Tryz.prog 105 #[.slice (some ⟨g,0,none⟩) 3 3] w fun e w'=>e = .returned (.int .i64 (orN [x,y,z]))∧∃ q,w' = w.drewN q:=by
 have c0:=h.cell 0
 have c1:=h.cell 1
 have c2:=h.cell 2
 simp at c0 c1 c2
 clear h
 go_enter Tryz.func105,Tryz.ntmps105
 go_wp2
 refine wp_loop_rounds 4 ?_
 rw [rounds_succ]
 go_wp2
 ·go_ret
  exact ⟨by simp_all [orN],0,rfl⟩
 rw [rounds_succ]
 go_wp2
 ·go_ret
  exact ⟨by simp_all [orN],0,rfl⟩
 rw [rounds_succ]
 go_wp2
 ·go_ret
  exact ⟨by simp_all [orN],0,rfl⟩
 rw [rounds_succ]
 go_wp2
 go_ret
 exact ⟨by simp_all [orN],0,rfl⟩
set_option maxHeartbeats 2000000 in
theorem cmpQ_v (a1 a2 b1 b2 : Int) (a3 b3 : ByteArray) (w : World) : Calls Tryz.prog 59 #[.agg #[.int .i64 a1,.int .i64 a2,.string a3],.agg #[.int .i64 b1,.int .i64 b2,.string b3]] w fun e w'=>e = .returned (.int .i64 (orN [cmpI a1 b1,cmpI a2 b2,cmpS (bs a3) (bs b3)]))∧GQ w w':=by
 go_enter Tryz.func59,Tryz.ntmps59
 go_upto_region 1 with fail
 obtain ⟨W,hW⟩ : ∃ W,(w.alloc (.cells #[.int .i64 a1,.int .i64 a2,.string a3] 42)).alloc (.cells #[.int .i64 b1,.int .i64 b2,.string b3] 42) = W:=⟨_,rfl⟩
 have kx : Blk W w.heap.size 42 #[.int .i64 a1,.int .i64 a2,.string a3]:=by rw [← hW]; exact (Blk.new _ _ _).alloc _
 have ky : Blk W (w.heap.size + 1) 42 #[.int .i64 b1,.int .i64 b2,.string b3]:=by
  rw [← hW]
  have:=Blk.new (w.alloc (.cells #[.int .i64 a1,.int .i64 a2,.string a3] 42)) 42 #[.int .i64 b1,.int .i64 b2,.string b3]
  simpa using this
 have hGW : Hid (GQ w W):=by unfold Hid; rw [← hW]; exact (GQ.alloc _ _).trans (GQ.alloc _ _)
 simp only [World.size_alloc,hW]
 clear hW
 refine wp_region_parR_all (R:=GQ) 18 [5,6,7,8,9,10,11,12,13,14,15,16,17,18,19,20,21,4] (fun _=>false) (PhiC w.heap.size (w.heap.size + 1) (a1,a2,a3) (b1,b2,b3)) GQ.drew (fun _ _ _=>GQ.trans) (fun _ _=>GQ.size) (by kernel_rfl) (by kernel_rfl) (phiC_stab _ _ _ _) ?steps ?fin
 case steps=>
  simp only [StepsParR]
  refine ⟨?_,?_,?_,?_,?_,?_,?_,?_,?_,?_,?_,?_,?_,?_,?_,?_,?_,?_,trivial⟩
  all_goals
   intro x w1x hb hd K hK
   simp only [frameOf,slots,Act.put,List.setIfInBounds_toArray,List.set_cons_zero,List.set_cons_succ] at hK ⊢
  ·go_simp
   exact hK _ _ (rfl) (GQ.refl _) (fun h=>absurd h (by decide))
  ·have e0 : x 0 = .pointer (some ⟨w.heap.size,0,none⟩):=hd ⟨0,.data⟩ (by simp) rfl
   simp only [e0] at hK ⊢
   have c0:=(kx.below hb.below).cell 0
   simp at c0
   go_simp
   exact hK _ _ (rfl) (GQ.refl _) (fun h=>absurd h (by decide))
  ·go_simp
   exact hK _ _ (rfl) (GQ.refl _) (fun h=>absurd h (by decide))
  ·have e2 : x 2 = .pointer (some ⟨w.heap.size + 1,0,none⟩):=hd ⟨2,.data⟩ (by simp) rfl
   simp only [e2] at hK ⊢
   have c0:=(ky.below hb.below).cell 0
   simp at c0
   go_simp
   exact hK _ _ (rfl) (GQ.refl _) (fun h=>absurd h (by decide))
  ·have e1 : x 1 = .int .i64 a1:=hd ⟨1,.data⟩ (by simp) rfl
   have e3 : x 3 = .int .i64 b1:=hd ⟨3,.data⟩ (by simp) rfl
   simp only [e1,e3] at hK ⊢
   go_simp
   refine (cmpQ_i _ _ _).mono ?_
   rintro e w2x ⟨rfl,rfl⟩
   exact hK _ _ rfl (GQ.refl _) (fun h=>absurd h (by decide))
  ·go_simp
   exact hK _ _ (rfl) (GQ.refl _) (fun h=>absurd h (by decide))
  ·have e5 : x 5 = .pointer (some ⟨w.heap.size,1,none⟩):=hd ⟨5,.data⟩ (by simp) rfl
   simp only [e5] at hK ⊢
   have c0:=(kx.below hb.below).cell 1
   simp at c0
   go_simp
   exact hK _ _ (rfl) (GQ.refl _) (fun h=>absurd h (by decide))
  ·go_simp
   exact hK _ _ (rfl) (GQ.refl _) (fun h=>absurd h (by decide))
  ·have e7 : x 7 = .pointer (some ⟨w.heap.size + 1,1,none⟩):=hd ⟨7,.data⟩ (by simp) rfl
   simp only [e7] at hK ⊢
   have c0:=(ky.below hb.below).cell 1
   simp at c0
   go_simp
   exact hK _ _ (rfl) (GQ.refl _) (fun h=>absurd h (by decide))
  ·have e6 : x 6 = .int .i64 a2:=hd ⟨6,.data⟩ (by simp) rfl
   have e8 : x 8 = .int .i64 b2:=hd ⟨8,.data⟩ (by simp) rfl
   simp only [e6,e8] at hK ⊢
   go_simp
   refine (cmpQ_j _ _ _).mono ?_
   rintro e w2x ⟨rfl,rfl⟩
   exact hK _ _ rfl (GQ.refl _) (fun h=>absurd h (by decide))
  ·go_simp
   exact hK _ _ (rfl) (GQ.refl _) (fun h=>absurd h (by decide))
  ·have e10 : x 10 = .pointer (some ⟨w.heap.size,2,none⟩):=hd ⟨10,.data⟩ (by simp) rfl
   simp only [e10] at hK ⊢
   have c0:=(kx.below hb.below).cell 2
   simp at c0
   go_simp
   exact hK _ _ (rfl) (GQ.refl _) (fun h=>absurd h (by decide))
  ·go_simp
   exact hK _ _ (rfl) (GQ.refl _) (fun h=>absurd h (by decide))
  ·have e12 : x 12 = .pointer (some ⟨w.heap.size + 1,2,none⟩):=hd ⟨12,.data⟩ (by simp) rfl
   simp only [e12] at hK ⊢
   have c0:=(ky.below hb.below).cell 2
   simp at c0
   go_simp
   exact hK _ _ (rfl) (GQ.refl _) (fun h=>absurd h (by decide))
  ·have e11 : x 11 = .string a3:=hd ⟨11,.data⟩ (by simp) rfl
   have e13 : x 13 = .string b3:=hd ⟨13,.data⟩ (by simp) rfl
   simp only [e11,e13] at hK ⊢
   go_simp
   refine (cmpQ_s _ _ _).mono ?_
   rintro e w2x ⟨rfl,rfl⟩
   exact hK _ _ rfl (GQ.refl _) (fun h=>absurd h (by decide))
  ·have e4 : x 4 = .int .i64 (cmpI a1 b1):=hd ⟨4,.data⟩ (by simp) rfl
   have e9 : x 9 = .int .i64 (cmpI a2 b2):=hd ⟨9,.data⟩ (by simp) rfl
   have e14 : x 14 = .int .i64 (cmpS (bs a3) (bs b3)):=hd ⟨14,.data⟩ (by simp) rfl
   simp only [e4,e9,e14] at hK ⊢
   go_simp
   exact hK _ _ ⟨_,rfl,Blk.new _ _ _⟩ (GQ.alloc _ _) (fun h=>absurd h (by decide))
  ·have d15:=hd ⟨15,.data⟩ (by simp) rfl
   obtain ⟨g,e15,kg⟩:=d15
   simp only [e15] at hK ⊢
   go_simp
   refine (orQ _ _ _ _ _ kg).mono ?_
   rintro e w2x ⟨rfl,q,rfl⟩
   exact hK _ _ rfl (GQ.drewN _ _) (fun h=>absurd h (by decide))
  ·have e16 : x 16 = .int .i64 (orN [cmpI a1 b1,cmpI a2 b2,cmpS (bs a3) (bs b3)]):=hd ⟨16,.data⟩ (by simp) rfl
   simp only [e16] at hK ⊢
   go_simp
   exact hK _ _ (rfl) (GQ.refl _) (fun h=>absurd h (by decide))
 case fin=>
  intro x wg hb hx _
  have e17 : x 17 = .int .i64 (orN [cmpI a1 b1,cmpI a2 b2,cmpS (bs a3) (bs b3)]):=hx 17 (by omega)
  simp only [frameOf,slots,Act.put,List.setIfInBounds_toArray,List.set_cons_zero,List.set_cons_succ,e17]
  clear hx e17
  have hq:=hGW.out.trans hb
  clear hb
  go_wp2
  go_ret
  exact ⟨rfl,hq⟩
theorem dn_rowAt {C : Cx} {b : Bool} {x : List Val} {u : Value} {k : Nat} {v : Val} (h : Dn C (.sl b (x.map vlC)) u) (hk : x[k]? = some v) : ∃ ad c,u = .slice (some ad) x.length c∧C.w.cell? (ad.add (k * 3)) = some (.int .i64 v.k)∧C.w.cell? (ad.add (k * 3 + 1)) = some (.int .i64 v.n)∧C.w.cell? (ad.add (k * 3 + 2)) = some (.string v.t):=by
 simp only [Dn] at h
 obtain ⟨A,c,css,sz,r1,r2,r3,r4,r5,r6,r7⟩:=h
 have hkl:=(List.getElem?_eq_some_iff.1 hk).1
 rcases A with _ | ad
 ·have:=r4 rfl
  rw [List.map_eq_nil_iff] at this
  subst this
  simp at hkl
 ·obtain ⟨cv,r12,r13⟩:=r6.at_ k (vlC v) (by rw [List.getElem?_map,hk]; rfl)
  simp only [vlC,DnL,Dn] at r13
  obtain ⟨_,_,rfl,rfl,_,_,rfl,rfl,_,_,rfl,rfl,rfl⟩:=r13
  have hsz : sz = 3:=(r5 _ (List.mem_of_getElem? r12)).symm
  subst hsz
  have h3:=fun i u hi hu=>(r7 ad rfl).2 (k * 3 + i) u (flat_at 3 css k i _ r5 r12 hi |>.trans hu)
  exact ⟨ad,c,by rw [r1,List.length_map],h3 0 _ (by omega) rfl,h3 1 _ (by omega) rfl,h3 2 _ (by omega) rfl⟩
def PhiB (gk : Nat) (key : Nat) (u v : Value) (au av : Addr) (x y : Val) (i : Nat) (z : Value) (w : World) : Prop:=match i with
 | 0=>z = u
 | 1=>z = .int .i64 key
 | 2=>z = .pointer (some (au.add (key * 3)))
 | 3=>z = .agg #[.int .i64 x.k,.int .i64 x.n,.string x.t]
 | 4=>z = v
 | 5=>z = .int .i64 key
 | 6=>z = .pointer (some (av.add (key * 3)))
 | 7=>z = .agg #[.int .i64 y.k,.int .i64 y.n,.string y.t]
 | _=>z = .int .i64 (cmpV x y)
theorem phiB_stab (gk : Nat) (key : Nat) (u v : Value) (au av : Addr) (x y : Val) : ∀ i z w1 w2,PhiB gk key u v au av x y i z w1→GQ w1 w2→PhiB gk key u v au av x y i z w2:=fun i z w1 w2 h hr=>h
set_option maxHeartbeats 2000000 in
theorem byQ (key : Nat) (C : Cx) (x y : List Val) (x0 y0 : Val) (u v : Value) (gk : Nat) (hx : x[key]? = some x0) (hy : y[key]? = some y0) (hu : Dn C (.sl true (x.map vlC)) u) (hv : Dn C (.sl true (y.map vlC)) v) (hk : C.w.cell? ⟨gk,0,none⟩ = some (.int .i64 key)) :
  Calls Tryz.prog 126 #[u,v,.pointer (some ⟨gk,0,none⟩)] C.w fun e w'=>e = .returned (.int .i64 (cmpV x0 y0))∧GQ C.w w':=by
 obtain ⟨au,cu,rfl,u0,u1,u2⟩:=dn_rowAt hu hx
 obtain ⟨av,cv,rfl,v0,v1,v2⟩:=dn_rowAt hv hy
 have hxl:=(List.getElem?_eq_some_iff.1 hx).1
 have hyl:=(List.getElem?_eq_some_iff.1 hy).1
 obtain ⟨w,hw⟩ : ∃ w,C.w = w:=⟨_,rfl⟩
 rw [hw] at hk u0 u1 u2 v0 v1 v2 ⊢
 clear hu hv hx hy hw
 have hcl : ∀ {w' : World},GQ w w'→∀ {a : Addr} {z : Value},w.cell? a = some z→w'.cell? a = some z:=fun h a z hz=>by
  have hlt : a.block < w.heap.size:=by
   unfold World.cell? at hz
   split at hz
   ·rename_i hh; exact (Array.getElem?_eq_some_iff.1 hh).1
   ·cases hz
  rw [h.below.cell hlt]; exact hz
 go_enter Tryz.func126,Tryz.ntmps126
 go_upto_region 1 with fail
 refine wp_region_parR_all (R:=GQ) 10 [6,7,8,9,10,11,12,13,14,5] (fun _=>false) (PhiB gk key (.slice (some au) x.length cu) (.slice (some av) y.length cv) au av x0 y0) GQ.drew (fun _ _ _=>GQ.trans) (fun _ _=>GQ.size) (by kernel_rfl) (by kernel_rfl) (phiB_stab _ _ _ _ _ _ _ _) ?steps ?fin
 case steps=>
  simp only [StepsParR]
  refine ⟨?_,?_,?_,?_,?_,?_,?_,?_,?_,?_,trivial⟩
  all_goals
   intro x w1x hb hd K hK
   simp only [frameOf,slots,Act.put,List.setIfInBounds_toArray,List.set_cons_zero,List.set_cons_succ] at hK ⊢
  ·go_simp
   exact hK _ _ (rfl) (GQ.refl _) (fun h=>absurd h (by decide))
  ·have c0:=hcl hb hk
   go_simp
   exact hK _ _ (rfl) (GQ.refl _) (fun h=>absurd h (by decide))
  ·have e0 : x 0 = .slice (some au) _ cu:=hd ⟨0,.data⟩ (by simp) rfl
   have e1 : x 1 = .int .i64 key:=hd ⟨1,.data⟩ (by simp) rfl
   simp only [e0,e1] at hK ⊢
   go_simp
   exact hK _ _ (rfl) (GQ.refl _) (fun h=>absurd h (by decide))
  ·have e2 : x 2 = .pointer (some (au.add (key * 3))):=hd ⟨2,.data⟩ (by simp) rfl
   simp only [e2] at hK ⊢
   have c0:=hcl hb u0
   have c1 : w1x.cell? ⟨(au.add (key * 3)).block,(au.add (key * 3)).off + 1,none⟩ = some (.int .i64 x0.n):=by have h9:=hcl hb u1; rw [← addr_add] at h9; exact h9
   have c2 : w1x.cell? ⟨(au.add (key * 3)).block,(au.add (key * 3)).off + 2,none⟩ = some (.string x0.t):=by have h9:=hcl hb u2; rw [← addr_add] at h9; exact h9
   go_simp
   exact hK _ _ (rfl) (GQ.refl _) (fun h=>absurd h (by decide))
  ·go_simp
   exact hK _ _ (rfl) (GQ.refl _) (fun h=>absurd h (by decide))
  ·have c0:=hcl hb hk
   go_simp
   exact hK _ _ (rfl) (GQ.refl _) (fun h=>absurd h (by decide))
  ·have e4 : x 4 = .slice (some av) _ cv:=hd ⟨4,.data⟩ (by simp) rfl
   have e5 : x 5 = .int .i64 key:=hd ⟨5,.data⟩ (by simp) rfl
   simp only [e4,e5] at hK ⊢
   go_simp
   exact hK _ _ (rfl) (GQ.refl _) (fun h=>absurd h (by decide))
  ·have e6 : x 6 = .pointer (some (av.add (key * 3))):=hd ⟨6,.data⟩ (by simp) rfl
   simp only [e6] at hK ⊢
   have c0:=hcl hb v0
   have c1 : w1x.cell? ⟨(av.add (key * 3)).block,(av.add (key * 3)).off + 1,none⟩ = some (.int .i64 y0.n):=by have h9:=hcl hb v1; rw [← addr_add] at h9; exact h9
   have c2 : w1x.cell? ⟨(av.add (key * 3)).block,(av.add (key * 3)).off + 2,none⟩ = some (.string y0.t):=by have h9:=hcl hb v2; rw [← addr_add] at h9; exact h9
   go_simp
   exact hK _ _ (rfl) (GQ.refl _) (fun h=>absurd h (by decide))
  ·have e3 : x 3 = .agg #[.int .i64 x0.k,.int .i64 x0.n,.string x0.t]:=hd ⟨3,.data⟩ (by simp) rfl
   have e7 : x 7 = .agg #[.int .i64 y0.k,.int .i64 y0.n,.string y0.t]:=hd ⟨7,.data⟩ (by simp) rfl
   simp only [e3,e7] at hK ⊢
   go_simp
   refine (cmpQ_v _ _ _ _ _ _ _).mono ?_
   rintro e w2x ⟨rfl,hq⟩
   exact hK _ _ rfl hq (fun h=>absurd h (by decide))
  ·have e8 : x 8 = .int .i64 (cmpV x0 y0):=hd ⟨8,.data⟩ (by simp) rfl
   simp only [e8] at hK ⊢
   go_simp
   exact hK _ _ (rfl) (GQ.refl _) (fun h=>absurd h (by decide))
 case fin=>
  intro x wg hb hx _
  have e17 : x 9 = .int .i64 (cmpV x0 y0):=hx 9 (by omega)
  simp only [frameOf,slots,Act.put,List.setIfInBounds_toArray,List.set_cons_zero,List.set_cons_succ,e17]
  clear hx e17
  go_wp2
  go_ret
  exact ⟨rfl,hb⟩
end Go.Proofs.YtpgfhkbnngjegaaGreatDoor
