/- A drawn region with one operation that takes a local row and hands it back. Condition: the edges that the text says. -/
import Derived.Test.YtpgfhkbnngjegaaGreatDoorT12
import Derived.Test.YtpgfhkbnngjegaaGreatDoorT10
namespace Go.Proofs.YtpgfhkbnngjegaaGreatDoor
open Go.RowKit
set_option linter.unusedVariables false
set_option linter.unusedSimpArgs false
def piL (pm : List Nat) (i : Nat) : Nat:=if i < pm.length then pm.idxOf i else i
def remapO (pm : List Nat) (o : Oper) : Oper:={ o with after:=(o.after.toList.map fun e=>{ e with on:=piL pm e.on }).toArray,guard:=match o.guard with
 | some (j,b)=>some (piL pm j,b)
 | none=>none }
def permL (pm : List Nat) (l : List Oper) : List Oper:=pm.filterMap fun i=>(l[i]?).map (remapO pm)
def permB (pm : List Nat) (n : Nat) : Bool:=Nat.beq pm.length n && pm.all (fun i=>Nat.blt i n) && ((List.range n).all (fun i=>pm.contains i) && (List.range n).all fun k=>match pm[k]? with
 | some i=>Nat.beq (piL pm i) k
 | none=>false)
section
variable {P : Program} {Q : Exit→Act→World→Prop} {pm : List Nat} {l : List Oper}
theorem pi_lt (hp : permB pm l.length = true) {i : Nat} (hi : i < l.length) : piL pm i < l.length∧pm[piL pm i]? = some i:=by
 simp only [permB,Bool.and_eq_true] at hp
 have hl : pm.length = l.length:=Nat.eq_of_beq_eq_true hp.1.1
 have hm : i ∈ pm:=by
  have:=List.all_eq_true.1 hp.2.1 i (List.mem_range.2 hi)
  simpa using this
 unfold piL
 rw [if_pos (by omega)]
 have h1 : pm.idxOf i < pm.length:=List.idxOf_lt_length_of_mem hm
 refine ⟨by omega,?_⟩
 rw [List.getElem?_eq_getElem h1]
 simp
theorem pi_inj (hp : permB pm l.length = true) {i j : Nat} (hi : i < l.length) (hj : j < l.length) (h : piL pm i = piL pm j) : i = j:=by
 have h1:=(pi_lt hp hi).2
 have h2:=(pi_lt hp hj).2
 rw [h,h2] at h1
 exact (Option.some.inj h1).symm
theorem pi_ge (hp : permB pm l.length = true) {i : Nat} (hi : l.length ≤ i) : piL pm i = i:=by
 simp only [permB,Bool.and_eq_true] at hp
 have hl : pm.length = l.length:=Nat.eq_of_beq_eq_true hp.1.1
 unfold piL
 rw [if_neg (by omega)]
theorem filterMap_get {α β : Type} (f : α→Option β) : ∀ (L : List α),(∀ x ∈ L,(f x).isSome = true)→∀ k : Nat,(L.filterMap f)[k]? = (L[k]?).bind f
 | [],_,k=>by simp
 | x :: L,h,k=>by
  obtain ⟨y,hy⟩:=Option.isSome_iff_exists.1 (h x (by simp))
  rw [List.filterMap_cons_some hy]
  cases k with
  | zero=>simp [hy]
  | succ k=>simpa using filterMap_get f L (fun z hz=>h z (by simp [hz])) k
theorem perm_at (hp : permB pm l.length = true) {k : Nat} : (permL pm l)[k]? = (pm[k]?).bind fun i=>(l[i]?).map (remapO pm):=by
 refine filterMap_get _ _ (fun x hx=>?_) k
 simp only [permB,Bool.and_eq_true] at hp
 have:=List.all_eq_true.1 hp.1.2 x hx
 have hx : x < l.length:=Nat.blt_eq.mp this
 simp [hx]
theorem perm_len (hp : permB pm l.length = true) : (permL pm l).length = l.length:=by
 have hl : pm.length = l.length:=by simp only [permB,Bool.and_eq_true] at hp; exact Nat.eq_of_beq_eq_true hp.1.1
 have h1 : ∀ k,(permL pm l)[k]? = none↔l.length ≤ k:=fun k=>by
  rw [perm_at hp]
  constructor
  ·intro h
   rcases Nat.lt_or_ge k pm.length with h2 | h2
   ·rw [List.getElem?_eq_getElem h2] at h
    simp only [Option.bind_some,Option.map_eq_none_iff,List.getElem?_eq_none_iff] at h
    have h3 : pm[k] ∈ pm:=List.getElem_mem h2
    simp only [permB,Bool.and_eq_true] at hp
    have:=Nat.blt_eq.mp (List.all_eq_true.1 hp.1.2 _ h3)
    omega
   ·omega
  ·intro h
   rw [List.getElem?_eq_none (by omega)]; rfl
 have h2:=(h1 l.length).2 (Nat.le_refl _)
 have h3 : ∀ k,k < l.length→k < (permL pm l).length:=fun k hk=>by
  rcases Nat.lt_or_ge k (permL pm l).length with h | h
  ·exact h
  ·have:=(h1 k).1 (List.getElem?_eq_none h); omega
 have h4:=List.getElem?_eq_none_iff.1 h2
 rcases Nat.eq_zero_or_pos l.length with h0 | h0
 ·omega
 ·have:=h3 (l.length - 1) (by omega); omega
theorem perm_get (hp : permB pm l.length = true) {i : Nat} {o : Oper} (ho : l[i]? = some o) : (permL pm l)[piL pm i]? = some (remapO pm o):=by
 have hi:=(List.getElem?_eq_some_iff.1 ho).1
 rw [perm_at hp,(pi_lt hp hi).2]
 simp [ho]
theorem remap_wp {o : Oper} {a : Act} {w : World} {K : Act→World→Prop} : (remapO pm o).wp P a w K Q = o.wp P a w K Q:=rfl
theorem perm_yield (hp : permB pm l.length = true) (j : Nat) (tmps : Array Value) : yielded (permL pm l).toArray tmps (piL pm j) = yielded l.toArray tmps j:=by
 unfold yielded
 rcases Nat.lt_or_ge j l.length with hj | hj
 ·have h1:=perm_get hp (List.getElem?_eq_getElem hj)
  simp [h1,hj,remapO]
 ·rw [pi_ge hp hj]
  have h1 : (permL pm l)[j]? = none:=List.getElem?_eq_none (by rw [perm_len hp]; exact hj)
  simp [h1,hj]
theorem perm_wanted (hp : permB pm l.length = true) (o : Oper) (tmps : Array Value) : Region.wanted (remapO pm o) (yielded (permL pm l).toArray tmps) = Region.wanted o (yielded l.toArray tmps):=by
 unfold Region.wanted remapO
 cases hg : o.guard with
 | none=>rfl
 | some g=>
  obtain ⟨j,b⟩:=g
  simp only [hg]
  rw [perm_yield hp]
structure LsR (pm : List Nat) (N : Nat) (A A' : Array Bool) : Prop where
 s : A.size = N
 s' : A'.size = N
 h : ∀ i,i < N→A[i]? = A'[piL pm i]?
theorem LsR.getD (hp : permB pm l.length = true) {A A' : Array Bool} (h : LsR pm l.length A A') (i : Nat) (d : Bool) : A'.getD (piL pm i) d = A.getD i d:=by
 rcases Nat.lt_or_ge i l.length with hi | hi
 ·rw [Array.getD_eq_getD_getElem?,Array.getD_eq_getD_getElem?,h.h i hi]
 ·rw [pi_ge hp hi,Array.getD_eq_getD_getElem?,Array.getD_eq_getD_getElem?,Array.getElem?_eq_none (by rw [h.s']; exact hi),Array.getElem?_eq_none (by rw [h.s]; exact hi)]
theorem perm_ready (hp : permB pm l.length = true) {A A' : Array Bool} (h : LsR pm l.length A A') {i : Nat} (hi : i ∈ Region.ready .any l.toArray A) : piL pm i ∈ Region.ready .any (permL pm l).toArray A':=by
 obtain ⟨h1,o,ho,h2⟩:=mem_ready.1 hi
 have ho' : l[i]? = some o:=by simpa using ho
 refine mem_ready.2 ⟨by rw [h.getD hp]; exact h1,remapO pm o,by simpa using perm_get hp ho',fun e he hb=>?_⟩
 simp only [remapO,List.mem_toArray,List.mem_map,Array.mem_toList_iff] at he
 obtain ⟨e0,he0,rfl⟩:=he
 simp only at hb ⊢
 rw [h.getD hp]
 exact h2 e0 he0 hb
theorem pi_onto (hp : permB pm l.length = true) {k : Nat} (hk : k < l.length) : ∃ i,i < l.length∧piL pm i = k:=by
 have hl : pm.length = l.length:=by simp only [permB,Bool.and_eq_true] at hp; exact Nat.eq_of_beq_eq_true hp.1.1
 simp only [permB,Bool.and_eq_true] at hp
 have h1:=List.all_eq_true.1 hp.2.2 k (List.mem_range.2 hk)
 rw [List.getElem?_eq_getElem (by omega)] at h1
 have h2:=List.all_eq_true.1 hp.1.2 (pm[k]'(by omega)) (List.getElem_mem _)
 exact ⟨_,Nat.blt_eq.mp h2,Nat.eq_of_beq_eq_true h1⟩
theorem perm_ready_nil (hp : permB pm l.length = true) {A A' : Array Bool} (h : LsR pm l.length A A') (hr : Region.ready .any l.toArray A = []) : Region.ready .any (permL pm l).toArray A' = []:=by
 rw [List.eq_nil_iff_forall_not_mem] at hr ⊢
 intro k hk
 obtain ⟨h1,o,ho,h2⟩:=mem_ready.1 hk
 have hkl : k < l.length:=by
  have:=(Array.getElem?_eq_some_iff.1 ho).1
  simpa [perm_len hp] using this
 obtain ⟨i,hi,rfl⟩:=pi_onto hp hkl
 refine hr i (mem_ready.2 ⟨by rw [h.getD hp] at h1; exact h1,l[i],by simp [hi],fun e he hb=>?_⟩)
 have h3:=perm_get hp (List.getElem?_eq_getElem hi)
 have h4 : (permL pm l)[piL pm i]? = some o:=by simpa using ho
 rw [h3] at h4
 injection h4 with h4
 subst h4
 have:=h2 { e with on:=piL pm e.on } (by simp only [remapO,List.mem_toArray,List.mem_map,Array.mem_toList_iff]; exact ⟨e,he,rfl⟩) hb
 simp only at this
 rwa [h.getD hp] at this
theorem LsR.set (hp : permB pm l.length = true) {A A' : Array Bool} (h : LsR pm l.length A A') {i : Nat} (hi : i < l.length) : LsR pm l.length (A.setIfInBounds i true) (A'.setIfInBounds (piL pm i) true):=by
 refine ⟨by simp [h.s],by simp [h.s'],fun j hj=>?_⟩
 by_cases e : j = i
 ·subst e
  have h1:=(pi_lt hp hj).1
  simp [h.s,h.s',hj,h1]
 ·have : piL pm j ≠ piL pm i:=fun e'=>e (pi_inj hp hj hi e')
  rw [Array.getElem?_setIfInBounds_ne (Ne.symm e),Array.getElem?_setIfInBounds_ne (Ne.symm this)]
  exact h.h j hj
theorem wpAny_perm (hp : permB pm l.length = true) : ∀ (fuel : Nat) (A A' : Array Bool) (a : Act) (w : World),LsR pm l.length A A'→wpAny P .any (permL pm l).toArray Q fuel A' a w→wpAny P .any l.toArray Q fuel A a w
 | 0,A,A',a,w,hr,h=>by
  refine ⟨?_,h.2⟩
  rw [List.eq_nil_iff_forall_not_mem]
  intro i hi
  have:=perm_ready hp hr hi
  rw [h.1] at this
  cases this
 | fuel + 1,A,A',a,w,hr,h=>by
  refine ⟨fun h0=>h.1 (perm_ready_nil hp hr h0),fun i hi=>?_⟩
  have h2:=h.2 _ (perm_ready hp hr hi)
  obtain ⟨_,o,ho,_⟩:=mem_ready.1 hi
  have ho' : l[i]? = some o:=by simpa using ho
  have hil:=(List.getElem?_eq_some_iff.1 ho').1
  have ho2 : (permL pm l).toArray[piL pm i]? = some (remapO pm o):=by simpa using perm_get hp ho'
  unfold wpOp at h2 ⊢
  rw [ho2] at h2
  rw [ho]
  simp only at h2 ⊢
  rw [perm_wanted hp] at h2
  split
  ·rename_i hw
   rw [if_pos hw] at h2
   rcases h2 with h2 | h2
   ·exact .inl (Oper.wp_mono (fun a' w' hh=>wpAny_perm hp fuel _ _ a' w' (hr.set hp hil) hh) (by rw [remap_wp] at h2; exact h2))
   ·exact .inr h2
  ·rename_i hw
   rw [if_neg hw] at h2
   exact wpAny_perm hp fuel _ _ _ w (hr.set hp hil) h2
theorem TA.perm {B : Nat} {w0 : World} {gh : List Value} {σ : St} {Q : Exit→St→Prop} (pm : List Nat) (hp : permB pm l.length = true) (h : TA P B w0 gh (permL pm l).toArray σ Q) : TA P B w0 gh l.toArray σ Q:=fun ρ a w hr=>by
 have h1:=h ρ a w hr
 have hl:=perm_len hp
 have e1 : (permL pm l).toArray.size = l.toArray.size:=by simp [hl]
 rw [e1] at h1
 refine wpAny_perm hp _ _ _ a w.drew ⟨by simp,by simp,fun i hi=>?_⟩ h1
 have:=(pi_lt hp hi).1
 simp [Array.getElem?_replicate,hi,this]
end
end Go.Proofs.YtpgfhkbnngjegaaGreatDoor

namespace Go.Proofs.YtpgfhkbnngjegaaGreatDoor
open Go.RowKit
set_option linter.unusedVariables false
set_option linter.unusedSimpArgs false
section
variable {P : Program} {B : Nat} {w0 : World} {gh : List Value} {l : List Oper}
theorem TA.appG {Q : Exit→St→Prop} {σ : St} (n k da : Nat) (hB : appB l n k da = true) {o : Oper} (hon : l[n]? = some o) {i : Nat} (hg : o.guard = none)
  (h : TPar P B w0 l (l.take n) σ.s σ.h fun s h=>TPu P B w0 i ((l.drop (n + 1)).take k) s fun s=>∃ new : LB,(∀ sH : List TV,sH.length = s.length→(∀ y,y ∈ o.op.operands.toList→tev sH y = tev s y)→TL P B w0 gh #[] [o] ⟨sH,h,σ.g⟩ (fun e σ'=>e = .normal∧σ' = (⟨(kpL (bar i) sH).set da (.row i),(h.map (LB.kp (bar i))).set i new,kpL (bar i) σ.g⟩ : St))) ∧
   TL P B w0 gh l.toArray (l.drop (n + 1 + k)) ⟨(kpL (bar i) s).set da (.row i),(h.map (LB.kp (bar i))).set i new,kpL (bar i) σ.g⟩ Q) : TA P B w0 gh l.toArray σ Q:=fun ρ a w hr=>by
 obtain ⟨m1,hm1⟩ : ∃ m1,l.take n = m1:=⟨_,rfl⟩
 obtain ⟨m2,hm2⟩ : ∃ m2,(l.drop (n + 1)).take k = m2:=⟨_,rfl⟩
 unfold appB at hB
 rw [hm1,hm2] at hB h
 simp only [Bool.and_eq_true,Bool.or_eq_true,decide_eq_true_eq,hon] at hB
 obtain ⟨⟨⟨⟨⟨⟨hb,hnk⟩,hp⟩,hcov⟩,hda⟩,hod⟩,htail⟩:=hB
 obtain ⟨hod1,hod2⟩:=hod
 have hodst : o.dst = some da:=by simpa using hod1
 have hl1 : m1.length = n:=by rw [← hm1]; simp; omega
 have hl2 : m2.length = k:=by rw [← hm2]; simp; omega
 obtain ⟨S,H,V,N,b,R,e1,e2,⟨newB,hst,hT⟩,e5⟩:=runs_join (l:=l) m1 σ.s σ.h h
 obtain ⟨m,hmm⟩ : ∃ m,m1 ++ m2 = m:=⟨_,rfl⟩
 rw [hmm] at R hst hT e5 hp hda
 have hml : m.length = n + k:=by rw [← hmm,List.length_append,hl1,hl2]
 have hix : ∀ p o,m[p]? = some o→l[ixA n p]? = some o:=fun p o' hpo=>by
  unfold ixA
  rw [← hmm] at hpo
  split
  ·rename_i hlt
   rw [List.getElem?_append_left (by omega),← hm1,List.getElem?_take_of_lt hlt] at hpo
   exact hpo
  ·rename_i hlt
   rw [List.getElem?_append_right (by omega),hl1,← hm2] at hpo
   have hpk : p - n < k:=by have:=(List.getElem?_eq_some_iff.1 hpo).1; simp at this; omega
   rw [List.getElem?_take_of_lt hpk,List.getElem?_drop] at hpo
   rw [show n + 1 + (p - n) = p + 1 by omega] at hpo
   exact hpo
 have hinj : ∀ p q,p < m.length→q < m.length→ixA n p = ixA n q→p = q:=fun p q _ _ e=>by unfold ixA at e; split at e <;> split at e <;> omega
 have hixn : ∀ p,ixA n p ≠ n:=fun p=>by unfold ixA; split <;> omega
 have hixlt : ∀ p,p < m.length→ixA n p < n + 1 + k:=fun p hp'=>by unfold ixA; split <;> omega
 have hixinv : ∀ j,j < n + 1 + k→j ≠ n→∃ p,p < m.length∧ixA n p = j:=fun j hj hjn=>by
  rcases Nat.lt_or_ge j n with h1 | h1
  ·exact ⟨j,by omega,by simp [ixA,h1]⟩
  ·exact ⟨j - 1,by omega,by unfold ixA; rw [if_neg (by omega)]; omega⟩
 have hSl:=R.slen m.length (Nat.le_refl _)
 have hS0 : (S 0).length = σ.s.length:=by rw [e1]
 -- the state behind the append
 obtain ⟨s3,hs3⟩ : ∃ s3,(kpL (bar i) (S m.length)).set da (.row i) = s3:=⟨_,rfl⟩
 obtain ⟨h3,hh3⟩ : ∃ h3,((H m.length).map (LB.kp (bar i))).set i newB = h3:=⟨_,rfl⟩
 rw [hs3,hh3] at hT
 rw [hh3] at hst
 have hs3l : s3.length = (S 0).length:=by rw [← hs3,List.length_set,kpL_len,hSl]
 have hs3at : ∀ t,t ≠ da→s3.getD t .any = kp (bar i) ((S m.length).getD t .any):=fun t ht=>by
  rw [← hs3,List.getD_eq_getElem?_getD,List.getElem?_set_ne (fun e=>ht e.symm),← List.getD_eq_getElem?_getD,kpL_getD]
 have hdam : ∀ p o',m[p]? = some o'→(da ∉ readsOf l o')∧o'.dst ≠ some da:=fun p o' hpo=>by
  have:=List.all_eq_true.1 hda o' (List.mem_of_getElem? hpo)
  simp only [Bool.and_eq_true,Bool.not_eq_true'] at this
  refine ⟨fun hmem=>?_,fun e=>?_⟩
  ·have h1 : (readsOf l o').contains da = true:=by simpa using hmem
   rw [h1] at this
   cases this.1
  ·simp [e] at this
 have hn' : n + 1 + k ≤ l.toArray.size:=by simpa using hnk
 have inv0 : HeadInv .any l.toArray (n + 1 + k) (Array.replicate l.toArray.size false):=
  ⟨by simp,fun j oj _ hl=>(by rw [getD_replicate_false] at hl; cases hl),fun t _ ht=>getD_in (by simpa using ht) (getD_replicate_false _ _)⟩
 have hno : ∀ listed,HeadInv .any l.toArray (n + 1 + k) listed→(∃ i,i < n + 1 + k∧listed.getD i true = false)→∀ t,n + 1 + k ≤ t→t ∉ Region.ready .any l.toArray listed:=by
  rcases htail with hnl | ⟨⟨⟨hlt,hs⟩,hc⟩,hq⟩
  ·intro listed _ _ t ht hr
   obtain ⟨_,o,ho,_⟩:=mem_ready.1 hr
   have:=(Array.getElem?_eq_some_iff.1 ho).1
   simp at this
   omega
  ·intro listed inv ⟨i,hi,hl⟩ t ht
   exact tail_waits hs hc (by simpa using hlt) inv (n + 1 + k - i) i rfl hi hl t ht
 have hbefore : ∀ {listed : Array Bool},HeadInv .any l.toArray (n + 1 + k) listed→listed.getD n false = true→∀ j,j < n→listed.getD j false = true:=fun {listed} inv hln j hj=>
  cov_listed hcov inv (fun o' ho' e he hbe=>inv.closed n o' (by simpa using ho') hln e he hbe) (n - j) j (by omega) (by omega)
 have key:=wpAny_inv (P:=P) (ops:=l.toArray) (Q:=liftQ B w0 gh Q) (n:=n + 1 + k) hb hn' hno
  (fun listed a w=>(listed.getD n false = false∧PI B w0 gh m (ixA n) S H V N σ.g listed a w)∨(listed.getD n false = true∧PB B w0 gh m n (ixA n) s3 h3 (kpL (bar i) σ.g) listed a w))
  (fun listed a w j inv hI hj hl hd=>by
   have hsize : listed.size = l.length:=by rw [inv.size]; simp
   have hjS : j < listed.size:=by omega
   have hljf : listed.getD j false = false:=by simp only [Array.getD,hjS,dite_true] at hl ⊢; exact hl
   rcases hI with ⟨hln,hI⟩ | ⟨hln,hI⟩
   ·by_cases hjn : j = n
    ·-- the append itself
     subst hjn
     have hall : ∀ q,q < j→listed.getD q false = true:=fun q hq=>cov_listed hcov inv (fun o' ho' e he hbe=>hd o' (by simpa using ho') e he hbe) (j - q) q (by omega) (by omega)
     obtain ⟨ρ,hR,hgh,hsz,hdf,hpt⟩:=hI
     have hDH : hD m.length (ixA j) H N listed = hf (H m.length):=by
      funext q
      unfold hD
      split
      ·rename_i h0
       exact (R.pre' (Nat.zero_le _) (Nat.le_refl _) h0).symm
      ·rename_i h0
       split
       ·rfl
       ·rename_i h1
        rcases Nat.lt_or_ge q (H m.length).length with h2 | h2
        ·exfalso
         have : ∀ d,d ≤ m.length→q < (H d).length→∃ i,i < m.length∧listed.getD (ixA j i) false = true∧(N i).isSome = true∧(H i).length = q:=by
          intro d
          induction d with
          | zero=>intro _ h3; exact absurd h3 h0
          | succ d ih=>
           intro hd' h3
           rcases Nat.lt_or_ge q (H d).length with h4 | h4
           ·exact ih (by omega) h4
           ·obtain ⟨_,_,_,_,h5⟩:=R.step d (m[d]'(by omega)) (by omega) (List.getElem?_eq_getElem _)
            cases hN : N d with
            | none=>rw [h5,hN] at h3; simp only [addO] at h3; omega
            | some x=>
             have h6:=(R.succ (by omega) hN).1
             have hdj : d < j:=by
              rcases Nat.lt_or_ge d j with h7 | h7
              ·exact h7
              ·have:=(e5 d _ (by rw [hl1]; exact h7) (List.getElem?_eq_getElem (by omega))).2.2.2.2.1
               rw [hN] at this
               cases this
             exact ⟨d,by omega,by simp only [ixA,hdj,if_true]; exact hall d hdj,by rw [hN]; rfl,by omega⟩
         exact h1 (this m.length (Nat.le_refl _) h2)
        ·exact (hf_ge h2).symm
     rw [hDH] at hR hgh hpt
     obtain ⟨sH,hsH⟩ : ∃ sH,holes m j (ixA j) listed (S m.length) = sH:=⟨_,rfl⟩
     have hRS : RelS B w0 gh ρ ⟨sH,H m.length,σ.g⟩ a w:=by
      refine ⟨?_,hgh,hR,hdf⟩
      refine dnl_of_point _ _ (by rw [← hsH]; simp [holes_len,hsz,hSl]) fun t x' u hx hu=>?_
      have hu' : a.tmps[t]? = some u:=by rw [← Array.getElem?_toList]; exact hu
      rw [← hsH] at hx
      rcases holes_get hx with rfl | ⟨h1,h2⟩
      ·simp [Dn]
      ·obtain ⟨q1,q2⟩:=hpt t u hu'
       have htl : t < (S 0).length:=by rw [← hSl]; exact (List.getElem?_eq_some_iff.1 h2).1
       rcases R.slot htl m.length (Nat.le_refl _) with ⟨q,oq,h3,h4,h5,h6⟩ | ⟨h3,h4⟩
       ·have : x' = V q:=by rw [h2] at h6; exact Option.some.inj h6
        subst this
        refine q1 q oq h3 h4 h5 ?_
        rcases Nat.lt_or_ge q j with h7 | h7
        ·simp only [ixA,h7,if_true]; exact hall q h7
        ·exact h1 q oq h7 h4 h5
       ·have : x' = (S 0).getD t .any:=by
         rw [h2] at h4
         simp [List.getD,← h4]
        subst this
        exact q2 fun q oq hq hoq hdq=>absurd hdq (h3 q oq hq hoq)
     have hopnd : ∀ y,y ∈ o.op.operands.toList→tev sH y = tev (S m.length) y:=fun y hy=>by
      rw [← hsH]
      refine tev_holes fun t ht p op hjp hpo hpd=>?_
      subst ht
      exfalso
      have h1:=List.all_eq_true.1 hod2 t (mem_tmpsOf hy)
      have h2 : op ∈ m2:=by
       rw [← hmm,List.getElem?_append_right (by omega)] at hpo
       exact List.mem_of_getElem? hpo
      have h3:=List.all_eq_true.1 h1 op h2
      simp [hpd] at h3
     have happ:=hst sH (by rw [← hsH,holes_len]) hopnd ρ a w hRS
     refine wpOp_step (by simpa using hon) fun K hK=>?_
     have hw : Region.wanted o (yielded l.toArray a.tmps) = true:=by simp [Region.wanted,hg]
     rw [hw]
     simp only [if_true]
     unfold wpList at happ
     rw [if_pos (by simp [Region.wanted,hg])] at happ
     rcases happ with happ | ⟨_,a1,w1,σ1,ρ1,⟨h1,_⟩,_⟩
     ·refine upon_mono2 (fun a' w' h1=>?_) (fun e a' w' hne h1=>?_) happ
      ·obtain ⟨σ1,ρ1,⟨_,rfl⟩,hr1⟩:=h1
       refine hK _ _ (.inr ⟨by simp [hjS],ρ1,hr1.rel,hr1.ghost,?_,hr1.defers,fun t u hu hP=>?_⟩)
       ·have:=hr1.slots.len
        simp only [List.length_set,kpL_len,Array.length_toList] at this
        rw [this,← hsH,holes_len,hs3l,hSl]
       ·have h4:=tev_dn hr1.slots (.tmp t)
        have h5 : a'.eval (.tmp t) = u:=by simp [Act.eval,Array.getD_eq_getD_getElem?,hu]
        rw [h5] at h4
        have h6 : tev ((kpL (bar i) sH).set da (.row i)) (.tmp t) = s3.getD t .any:=by
         by_cases hta : t = da
         ·subst hta
          rw [← hs3]
          simp only [tev]
          have e : (kpL (bar i) sH).length = (kpL (bar i) (S m.length)).length:=by rw [kpL_len,kpL_len,← hsH,holes_len]
          rcases Nat.lt_or_ge t (kpL (bar i) sH).length with h7 | h7
          ·simp [List.getD,h7,e ▸ h7]
          ·simp [List.getD,h7,e ▸ h7]
         ·rw [hs3at t hta]
          simp only [tev]
          rw [List.getD_eq_getElem?_getD,List.getElem?_set_ne (fun e=>hta e.symm),← List.getD_eq_getElem?_getD,kpL_getD,← hsH,holes_at]
          intro p op hjp hpo hpd
          have:=hP p op hjp hpo hpd
          rwa [getD_set_ne false (fun e=>hixn p e.symm)] at this
        rw [h6] at h4
        exact h4
      ·obtain ⟨σ1,ρ1,⟨h2,_⟩,hr1⟩:=h1
       exact absurd h2 hne
     ·cases h1
    ·obtain ⟨p,hpm,hpj⟩:=hixinv j hj hjn
     subst hpj
     refine wpOp_mono (fun a' w' h1=>.inl ⟨?_,h1⟩) (region_par_core R hp hix hinj hsize hI hpm hl rfl hd)
     rw [getD_set_ne false (fun e=>hixn p e)]
     exact hln
   ·have hjn : j ≠ n:=by
     rintro rfl
     rw [hln] at hljf
     cases hljf
    obtain ⟨p,hpm,hpj⟩:=hixinv j hj hjn
    subst hpj
    have hpn : n ≤ p:=by
     rcases Nat.lt_or_ge p n with h1 | h1
     ·have:=hbefore inv hln p h1
      simp only [ixA,h1,if_true] at hljf
      rw [this] at hljf
      cases hljf
     ·exact h1
    obtain ⟨op,hop⟩ : ∃ op,m[p]? = some op:=⟨m[p]'hpm,List.getElem?_eq_getElem _⟩
    obtain ⟨f1,f2,f3,f4,f5,f6⟩:=e5 p op (by rw [hl1]; exact hpn) hop
    obtain ⟨ρ,hR,hgh,hsz,hdf,hpt⟩:=hI
    have hol:=hix p op hop
    refine wpOp_step (by simpa using hol) fun K hK=>?_
    have hw : Region.wanted op (yielded l.toArray a.tmps) = true:=by simp [Region.wanted,f1]
    rw [hw]
    simp only [if_true]
    have hslotp : ∀ t,t ∈ readsOf l op→t ≠ da→(S m.length).getD t .any = (S p).getD t .any∧∀ q oq,n ≤ q→m[q]? = some oq→oq.dst = some t→listed.getD (ixA n q) false = true:=fun t ht hta=>by
     refine ⟨?_,fun q oq hnq hoq hdq=>?_⟩
     ·rcases Nat.lt_or_ge t (S 0).length with htl | htl
      ·rcases R.slot htl p (by omega) with ⟨q,oq,h1,h2,h3,h4⟩ | ⟨h1,h2⟩ <;> rcases R.slot htl m.length (Nat.le_refl _) with ⟨q',oq',h1',h2',h3',h4'⟩ | ⟨h1',h2'⟩
       ·have : q = q':=by
         by_cases hqq : q = q'
         ·exact hqq
         ·exact absurd h3 ((parB_spec hp (by omega) h1' h2 h2' h3').2 hqq)
        subst this
        simp [List.getD,h4,h4']
       ·exact absurd h3 (h1' q oq (by omega) h2)
       ·have:=((parB_spec hp hpm h1' hop h2' h3').1 ht).1
        exact absurd h3' (h1 q' oq' this h2')
       ·simp [List.getD,h2,h2']
      ·have hp1:=R.slen p (by omega)
       rw [List.getD_eq_getElem?_getD,List.getD_eq_getElem?_getD,List.getElem?_eq_none (by omega),List.getElem?_eq_none (by omega)]
     ·obtain ⟨_,e,he,h6,h7⟩:=(parB_spec hp hpm (List.getElem?_eq_some_iff.1 hoq).1 hop hoq hdq).1 ht
      rw [← h6]
      exact hd op (by simpa using hol) e he h7
    have hopnds : ∀ y ∈ op.op.operands.toList,Dn (cxOf B ρ (hf h3) w) (tev (S p) y) (a.eval y):=by
     intro y hy
     cases y with
     | tmp t=>
      have htr : t ∈ readsOf l op:=List.mem_append_left _ (mem_tmpsOf hy)
      have hta : t ≠ da:=fun e=>(hdam p op hop).1 (e ▸ htr)
      obtain ⟨g1,g2⟩:=hslotp t htr hta
      have h5:=f3 _ hy
      simp only [tev] at h5 ⊢
      rcases Nat.lt_or_ge t a.tmps.size with htl | htl
      ·have hu : a.tmps[t]? = some (a.tmps.getD t undef):=by simp [htl]
       have h6:=hpt t _ hu g2
       rw [hs3at t hta,g1,h5] at h6
       exact h6
      ·have hp1:=R.slen p (by omega)
       rw [List.getD_eq_getElem?_getD,List.getElem?_eq_none (by omega)]
       simp [Dn]
     | const v=>exact ofV_dn _ v
     | global g=>simp [tev,Act.eval,Dn]
     | func f=>
      simp only [tev,Act.eval,Dn]
      exact ⟨[],rfl,DnL.nil⟩
    refine f2 ρ (hf h3) w a (fun i hi=>absurd hi (by simp)) (fun h=>by cases h) hR hopnds K _ fun u w' ρ' R' KK hbw hdu=>?_
    simp only [addf] at R' KK hdu
    refine hK _ _ (.inr ⟨?_,ρ',R',DnL.keep KK _ _ hgh,?_,by rw [put_defers]; exact hdf,fun t v hv hP=>?_⟩)
    ·rw [getD_set_ne false (fun e=>hixn p e)]
     exact hln
    ·rw [← hsz]
     cases hd' : op.dst with
     | none=>rfl
     | some d=>simp [Act.put]
    ·by_cases hdt : op.dst = some t
     ·have hvu : v = u:=by
       rw [hdt] at hv
       simp only [Act.put,Array.getElem?_setIfInBounds_self] at hv
       split at hv
       ·injection hv with hv; exact hv.symm
       ·cases hv
      subst hvu
      have hta : t ≠ da:=fun e=>(hdam p op hop).2 (e ▸ hdt)
      have htl : t < (S 0).length:=by
       rcases Nat.lt_or_ge t a.tmps.size with h1 | h1
       ·omega
       ·rw [hdt] at hv
        simp only [Act.put] at hv
        have:=(Array.getElem?_eq_some_iff.1 hv).1
        simp at this
        omega
      rw [hs3at t hta]
      rcases R.slot htl m.length (Nat.le_refl _) with ⟨q,oq,h1,h2,h3',h4⟩ | ⟨h1,h2⟩
      ·have : p = q:=by
        by_cases hqq : p = q
        ·exact hqq
        ·exact absurd hdt ((parB_spec hp hpm h1 hop h2 h3').2 hqq)
       subst this
       have : (S m.length).getD t .any = V p:=by simp [List.getD,h4]
       rw [this,f4]
       exact hdu
      ·exact absurd hdt (h1 p op hpm hop)
     ·have hv' : a.tmps[t]? = some v:=by
       cases hd' : op.dst with
       | none=>rw [hd'] at hv; exact hv
       | some d=>
        rw [hd'] at hv
        simp only [Act.put] at hv
        rw [Array.getElem?_setIfInBounds_ne (fun e=>hdt (by rw [hd',e]))] at hv
        exact hv
      refine Dn.keep KK _ _ (hpt t v hv' fun q oq hnq hoq hdq=>?_)
      have h1:=hP q oq hnq hoq hdq
      have hqp : q ≠ p:=by
       rintro rfl
       rw [hop] at hoq
       injection hoq with hoq
       subst hoq
       exact hdt hdq
      rwa [getD_set_ne false (fun e=>hqp (hinj _ _ hpm (List.getElem?_eq_some_iff.1 hoq).1 e).symm)] at h1)
  (fun listed a' w' inv hall hI=>by
   have hlist:=headOf_eq hn' inv hall
   subst hlist
   have hl : ∀ i,i < n + 1 + k→(headOf (n + 1 + k) l.toArray.size).getD i false = true:=fun i hi=>by
    have h1:=hall i hi
    have h2 : i < (headOf (n + 1 + k) l.toArray.size).size:=by rw [inv.size]; omega
    simp only [Array.getD,h2,dite_true] at h1 ⊢
    exact h1
   rcases hI with ⟨h1,_⟩ | ⟨_,hI⟩
   ·rw [hl n (by omega)] at h1; cases h1
   ·obtain ⟨ρ',hR,hgh,hsz,hdf,hpt⟩:=hI
    have hRS : RelS B w0 gh ρ' ⟨s3,h3,kpL (bar i) σ.g⟩ a' w':=by
     refine ⟨dnl_of_point _ _ (by simp [hsz]) fun t x' u hx hu=>?_,hgh,hR,hdf⟩
     have hu' : a'.tmps[t]? = some u:=by rw [← Array.getElem?_toList]; exact hu
     have:=hpt t u hu' fun p op hnp hop hdp=>hl _ (hixlt p (List.getElem?_eq_some_iff.1 hop).1)
     rw [List.getD_eq_getElem?_getD,hx] at this
     exact this
    have hT':=hT ρ' a' w' hRS
    rcases htail with hnl | ⟨⟨⟨hlt,hs⟩,hc⟩,hq⟩
    ·have hdr : l.drop (n + 1 + k) = []:=by rw [hnl]; simp
     rw [hdr] at hT'
     have hrd : Region.ready .any l.toArray (headOf (n + 1 + k) l.toArray.size) = []:=by
      rw [List.eq_nil_iff_forall_not_mem]
      intro t hr'
      obtain ⟨hl',o,ho,_⟩:=mem_ready.1 hr'
      have:=(Array.getElem?_eq_some_iff.1 ho).1
      have hlt : t < l.length:=by simpa using this
      have h5:=hl t (by omega)
      have h6 : t < (headOf (n + 1 + k) l.toArray.size).size:=by rw [inv.size]; exact this
      simp only [Array.getD,h6,dite_true] at hl' h5
      rw [hl'] at h5
      cases h5
     rw [show l.toArray.size - (n + 1 + k) = 0 by simp; omega]
     exact ⟨hrd,hT'⟩
    ·have:=wpAny_of_seq (P:=P) (ops:=l.toArray) (md:=.any) (Q':=liftQ B w0 gh Q) (l.drop (n + 1 + k)) (n + 1 + k) (headOf (n + 1 + k) l.length) a' w' (fun j=>by simp [List.getElem?_drop]) (by rw [List.length_drop]; exact hq) hT'
     simpa using this)
  (leftOf (n + 1 + k) (Array.replicate l.toArray.size false)) _ a w.drew inv0 rfl
  (.inl ⟨getD_replicate_false _ _,by
   have hD0 : hD m.length (ixA n) H N (Array.replicate l.toArray.size false) = hf σ.h:=by
    funext q
    unfold hD
    rw [e2]
    split
    ·rfl
    ·rename_i h0
     rw [if_neg,hf_ge (by omega)]
     rintro ⟨i,_,h1,_⟩
     rw [getD_replicate_false] at h1
     cases h1
   refine ⟨ρ,?_⟩
   unfold PIb
   rw [hD0,e1]
   have hb0 : Below w.heap.size w w.drew:=(Below.refl _ _).drew
   have KK : Keeps (cxOf B ρ (hf σ.h) w) (cxOf B ρ (hf σ.h) w.drew):=.grow hb0
   refine ⟨hr.rel.grow hb0,DnL.keep KK _ _ hr.ghost,by have:=hr.slots.len; simpa using this,hr.defers,fun t u hu=>⟨fun i o hi ho hd hl=>(by rw [getD_replicate_false] at hl; cases hl),fun _=>?_⟩⟩
   have hsl:=tev_dn hr.slots (.tmp t)
   have h2 : a.eval (.tmp t) = u:=by simp [Act.eval,Array.getD_eq_getD_getElem?,hu]
   rw [h2] at hsl
   exact Dn.keep KK _ _ hsl⟩)
 have hleft : leftOf (n + 1 + k) (Array.replicate l.toArray.size false) = n + 1 + k:=by
  unfold leftOf
  rw [List.filter_eq_self.2]
  ·simp
  ·intro i hi
   rw [List.mem_range] at hi
   have : i < l.length:=by omega
   simp [this]
 rw [hleft,show n + 1 + k + (l.toArray.size - (n + 1 + k)) = l.toArray.size by omega] at key
 exact key
end
end Go.Proofs.YtpgfhkbnngjegaaGreatDoor
