/- A region that draws its order, whose operations ahead of a forced tail keep one another's facts: each is shown once, whatever the order. No condition. -/
import Derived.Test.YtpgfhkbnngjegaaGreatDoorT7
import Derived.StillTail
import Derived.Below
import Derived.Deep.Draws
import Derived.RegionTactic
namespace Go.Proofs.YtpgfhkbnngjegaaGreatDoor
open Go.RowKit
set_option linter.unusedVariables false
set_option linter.unusedSimpArgs false
def LeT (t t' : TV) : Prop:=t' = .any∨t = t'∨(t = .nil_∧∃ b,t' = .sl b [])
def LeL : List TV→List TV→Prop
 | [],ts=>ts = []
 | t :: ts,us=>∃ u us',us = u :: us'∧LeT t u∧LeL ts us'
def LeB : List LB→List LB→Prop
 | [],hs=>hs = []
 | b :: bs,hs=>∃ c cs,hs = c :: cs∧(b = c∨∃ t l l',b = .cells t l∧c = .cells t l'∧LeL l l')∧LeB bs cs
theorem LeL.dn {C : Cx} : ∀ {ts us : List TV} {vs : List Value},LeL ts us→DnL C ts vs→DnL C us vs
 | [],us,vs,h,hd=>by simp only [LeL] at h; subst h; exact hd
 | t :: ts,us,vs,h,hd=>by
  simp only [LeL] at h
  obtain ⟨u,us',rfl,h1,h2⟩:=h
  simp only [DnL] at hd
  obtain ⟨v,vs',rfl,h3,h4⟩:=hd
  refine DnL.cons ?_ (LeL.dn h2 h4)
  rcases h1 with rfl | rfl | ⟨rfl,b,rfl⟩
  ·simp [Dn]
  ·exact h3
  ·simp only [Dn] at h3 ⊢
   subst h3
   exact ⟨none,0,[],0,rfl,Nat.le_refl _,by simp [maxLen],by simp,by simp,by simp [DnLL],fun ad ha=>by cases ha⟩
theorem LeB.at_ : ∀ {hs hs' : List LB},LeB hs hs'→∀ i,(hf hs i = hf hs' i)∨∃ t l l',hf hs i = .cells t l∧hf hs' i = .cells t l'∧LeL l l'
 | [],hs',h,i=>by simp only [LeB] at h; subst h; exact .inl rfl
 | b :: bs,hs',h,i=>by
  simp only [LeB] at h
  obtain ⟨c,cs,rfl,h1,h2⟩:=h
  cases i with
  | zero=>
   rcases h1 with rfl | ⟨t,l,l',rfl,rfl,h3⟩
   ·exact .inl rfl
   ·exact .inr ⟨t,l,l',rfl,rfl,h3⟩
  | succ i=>
   have:=LeB.at_ h2 i
   simpa [hf] using this
theorem set_same {α : Type} {l : List α} {k : Nat} {u : α} (h : l[k]? = some u) : l.set k u = l:=by
 apply List.ext_getElem?
 intro i
 rw [List.getElem?_set]
 by_cases hi : k = i
 ·subst hi
  simp [h]
  exact (List.getElem?_eq_some_iff.1 h).1
 ·simp [hi]
section
variable {P : Program} {B : Nat} {w0 : World} {gh : List Value} {σ : St}
theorem SLe.refl (σ : St) : SLe B w0 gh σ σ:=fun ρ a w h=>⟨ρ,h⟩
theorem SLe.trans {σ1 σ2 σ3 : St} (h : SLe B w0 gh σ1 σ2) (k : SLe B w0 gh σ2 σ3) : SLe B w0 gh σ1 σ3:=fun ρ a w hr=>by
 obtain ⟨ρ',h'⟩:=h ρ a w hr
 exact k ρ' a w h'
theorem SLe.of {σ' : St} (hs : LeL σ.s σ'.s) (hh : LeB σ.h σ'.h) (hg : LeL σ.g σ'.g) : SLe B w0 gh σ σ':=fun ρ a w hr=>by
 have hhere : ∀ i,(hf σ.h i).here↔(hf σ'.h i).here:=fun i=>by
  rcases hh.at_ i with h | ⟨t,l,l',h1,h2,_⟩
  ·rw [h]
  ·rw [h1,h2]; exact ⟨fun _=>trivial,fun _=>trivial⟩
 have hext : ∀ i x,hf σ'.h i = .ext x→hf σ.h i = .ext x:=fun i x e=>by
  rcases hh.at_ i with h | ⟨t,l,l',h1,h2,_⟩
  ·rw [h]; exact e
  ·rw [h2] at e; cases e
 have KK : Keeps (cxOf B ρ (hf σ.h) w) (cxOf B ρ (hf σ'.h) w):=⟨fun k hS hk=>⟨rfl,⟨fun i hi=>hS.1 i ((hhere i).2 hi),ps_no hext hS.2⟩,hk⟩,Nat.le_refl _,fun i hi=>⟨(hhere i).1 hi,rfl⟩,fun _ _ _ _ _ h=>h,fun i k _ hz hk=>⟨rfl,Z_of (fun j hj=>(hhere j).2 hj) hext (fun x e=>by
  rcases hh.at_ i with h | ⟨t,l,l',h1,h2,_⟩
  ·rw [← h]; exact e
  ·rw [h1] at e; cases e) hz,hk⟩⟩
 refine ⟨ρ,hs.dn (DnL.keep KK _ _ hr.slots),hg.dn (DnL.keep KK _ _ hr.ghost),?_,hr.defers⟩
 have R:=hr.rel
 refine ⟨R.below,R.gl0,R.size,fun i t cs hi=>?_,fun i e sz els hi=>?_,fun i j g hi hj=>R.sep i j g ((hhere i).2 hi) ((hhere j).2 hj),fun i g hi=>R.inj i g ((hhere i).2 hi),R.oth,R.ext_of (fun i hi=>(hhere i).2 hi) hext⟩
 ·rcases hh.at_ i with h | ⟨t',l,l',h1,h2,h3⟩
  ·obtain ⟨g,vs,r1,r2,r3,r4⟩:=R.blk i t cs (h.trans hi)
   exact ⟨g,vs,r1,r2,r3,DnL.keep KK _ _ r4⟩
  ·rw [h2] at hi
   injection hi with hi1 hi2
   subst hi1 hi2
   obtain ⟨g,vs,r1,r2,r3,r4⟩:=R.blk i _ _ h1
   exact ⟨g,vs,r1,r2,r3,h3.dn (DnL.keep KK _ _ r4)⟩
 ·rcases hh.at_ i with h | ⟨t',l,l',h1,h2,h3⟩
  ·obtain ⟨A,c,css,r1,r2,r3,r4⟩:=R.row i e sz els (h.trans hi)
   exact ⟨A,c,css,r1,r2,r3,DnLL.keep KK _ _ r4⟩
  ·rw [h2] at hi
   cases hi
def low (k : Nat) : Nat→Bool:=fun i=>decide (i < k)
theorem SLe.cut (k : Nat) : SLe B w0 gh σ ⟨kpL (low k) σ.s,(σ.h.take k).map (LB.kp (low k)),kpL (low k) σ.g⟩:=fun ρ a w hr=>by
 have e : ∀ i,hf ((σ.h.take k).map (LB.kp (low k))) i = if i < k then (hf σ.h i).kp (low k) else .none:=fun i=>by
  unfold hf
  rcases Nat.lt_or_ge i k with h1 | h1
  ·rw [if_pos h1]
   rcases Nat.lt_or_ge i σ.h.length with h2 | h2
   ·simp [List.getD,h1,h2]
   ·have h3 : (List.map (LB.kp (low k)) (σ.h.take k))[i]? = none:=List.getElem?_eq_none (by simp; omega)
    rw [List.getD_eq_getElem?_getD,h3,List.getD_eq_getElem?_getD,List.getElem?_eq_none h2]
    rfl
  ·rw [if_neg (by omega)]
   have h3 : (List.map (LB.kp (low k)) (σ.h.take k))[i]? = none:=List.getElem?_eq_none (by simp; omega)
   rw [List.getD_eq_getElem?_getD,h3]
   rfl
 have hhere : ∀ i,(hf ((σ.h.take k).map (LB.kp (low k))) i).here↔i < k∧(hf σ.h i).here:=fun i=>by
  rw [e]
  split
  ·rename_i hik
   rw [LB.kp_here]
   exact ⟨fun h=>⟨hik,h⟩,fun h=>h.2⟩
  ·rename_i hik
   exact ⟨fun h=>h.elim,fun h=>absurd h.1 hik⟩
 have hext : ∀ i x,hf ((σ.h.take k).map (LB.kp (low k))) i = .ext x→hf σ.h i = .ext x:=fun i x hx=>by
  rw [e] at hx
  split at hx
  ·exact LB.kp_ext hx
  ·cases hx
 have KK : Keeps ((cxOf B ρ (hf σ.h) w).less (low k)) (cxOf B ρ (hf ((σ.h.take k).map (LB.kp (low k)))) w):=⟨fun j hS hj=>⟨rfl,⟨fun i hi=>hS.1 i ((hhere i).1 hi).2,ps_no hext hS.2⟩,hj⟩,Nat.le_refl _,fun i hi=>⟨(hhere i).2 ⟨by have:=hi.2; simpa [low] using this,hi.1⟩,rfl⟩,fun _ _ _ _ _ h=>h,fun i j hi hz hj=>⟨rfl,Z_of (B:=B) (w:=w) (fun j hj=>((hhere j).1 hj).2) hext (fun x ex=>by
  have h1 : i < k:=by have:=hi.2; simpa [low] using this
  rw [e,if_pos h1,ex]; rfl) hz,hj⟩⟩
 refine ⟨ρ,DnL.keep KK _ _ (DnL.kp (low k) _ _ hr.slots),DnL.keep KK _ _ (DnL.kp (low k) _ _ hr.ghost),?_,hr.defers⟩
 have R:=hr.rel
 refine ⟨R.below,R.gl0,R.size,fun i t cs hi=>?_,fun i e' sz els hi=>?_,fun i j g hi hj=>R.sep i j g ((hhere i).1 hi).2 ((hhere j).1 hj).2,fun i g hi=>R.inj i g ((hhere i).1 hi).2,R.oth,R.ext_of (fun i hi=>((hhere i).1 hi).2) hext⟩
 ·rw [e] at hi
  split at hi
  ·cases hh : hf σ.h i with
   | none=>rw [hh] at hi; cases hi
   | ext x=>rw [hh] at hi; cases hi
   | row e sz els=>rw [hh] at hi; cases hi
   | cells t' cs'=>
    rw [hh] at hi
    simp only [LB.kp,LB.cells.injEq] at hi
    obtain ⟨rfl,rfl⟩:=hi
    obtain ⟨g,vs,r1,r2,r3,r4⟩:=R.blk i _ _ hh
    exact ⟨g,vs,r1,r2,r3,DnL.keep KK _ _ (DnL.kp (low k) _ _ r4)⟩
  ·cases hi
 ·rw [e] at hi
  split at hi
  ·cases hh : hf σ.h i with
   | none=>rw [hh] at hi; cases hi
   | ext x=>rw [hh] at hi; cases hi
   | cells t' cs'=>rw [hh] at hi; cases hi
   | row e sz' els'=>
    rw [hh] at hi
    simp only [LB.kp,LB.row.injEq] at hi
    obtain ⟨rfl,rfl,rfl⟩:=hi
    obtain ⟨A,c,css,r1,r2,r3,r4⟩:=R.row i _ _ _ hh
    rw [kpLL_len]
    exact ⟨A,c,css,r1,r2,r3,DnLL.keep KK _ _ (DnLL.kp (low k) _ _ r4)⟩
  ·cases hi
theorem SLe.nilrow {k : Nat} (e : TypeId) (sz : Nat) (hk : σ.s[k]? = some .nil_) : SLe B w0 gh σ ⟨σ.s.set k (.row σ.h.length),σ.h ++ [.row e sz []],σ.g⟩:=fun ρ a w hr=>by
 have R:=hr.rel
 have hnone : hf σ.h σ.h.length = .none:=hf_ge (Nat.le_refl _)
 have KK : Keeps (cxOf B ρ (hf σ.h) w) (cxOf B (updf ρ σ.h.length (.slice none 0 0)) (updf (hf σ.h) σ.h.length (LB.row e sz [])) w):=.add hnone (Below.refl _ _) (fun g hg=>by cases hg)
 refine ⟨updf ρ σ.h.length (.slice none 0 0),?_,?_,?_,hr.defers⟩
 ·simp only [hf_app]
  have h1:=DnL.keep KK _ _ hr.slots
  obtain ⟨u,h2,h3⟩:=h1.at_ k _ hk
  simp only [Dn] at h3
  have h4 : a.tmps.toList.set k u = a.tmps.toList:=set_same h2
  rw [← h4]
  refine h1.set k ?_
  simp only [Dn]
  refine ⟨?_,?_⟩
  ·show LB.here (updf _ σ.h.length _ σ.h.length)
   rw [updf_same]; trivial
  ·show _ = updf ρ σ.h.length _ σ.h.length
   rw [updf_same]; exact h3
 ·simp only [hf_app]
  exact DnL.keep KK _ _ hr.ghost
 ·simp only [hf_app]
  refine R.add hnone (Below.refl _ _) (fun g hg=>by cases hg) (fun t cs e=>by cases e) (fun e' sz' els' e1=>?_)
  injection e1 with e2 e3 e4
  subst e2 e3 e4
  exact ⟨none,0,[],rfl,World.ownsRow_nil _ _ _ _,by simp,by simp [DnLL]⟩
theorem SLe.nilrow_in {i j : Nat} {t : TypeId} {cs : List TV} (e : TypeId) (sz : Nat) (hi : hf σ.h i = .cells t cs) (hj : cs[j]? = some .nil_) : SLe B w0 gh σ ⟨σ.s,(σ.h ++ [LB.row e sz []]).set i (.cells t (cs.set j (.row σ.h.length))),σ.g⟩:=fun ρ a w hr=>by
 have R:=hr.rel
 have hnone : hf σ.h σ.h.length = .none:=hf_ge (Nat.le_refl _)
 have hil : i < σ.h.length:=hf_lt hi (by simp)
 have KK : Keeps (cxOf B ρ (hf σ.h) w) (cxOf B (updf ρ σ.h.length (.slice none 0 0)) (updf (hf σ.h) σ.h.length (LB.row e sz [])) w):=.add hnone (Below.refl _ _) (fun g hg=>by cases hg)
 have R2:=R.add (r:=.slice none 0 0) (lb:=.row e sz []) hnone (Below.refl _ _) (fun g hg=>by cases hg) (fun t cs e=>by cases e) (fun e' sz' els' e1=>by
  injection e1 with e2 e3 e4
  subst e2 e3 e4
  exact ⟨none,0,[],rfl,World.ownsRow_nil _ _ _ _,by simp,by simp [DnLL]⟩)
 have hin : i ≠ σ.h.length:=by omega
 have h2 : updf (hf σ.h) σ.h.length (LB.row e sz []) i = .cells t cs:=by rw [updf_ne _ _ hin]; exact hi
 have e2 : hf ((σ.h ++ [LB.row e sz []]).set i (.cells t (cs.set j (.row σ.h.length)))) = updf (updf (hf σ.h) σ.h.length (LB.row e sz [])) i (.cells t (cs.set j (.row σ.h.length))):=by
  rw [hf_set (by simp; omega),hf_app]
 obtain ⟨g,vs,r1,r2,r3,r4⟩:=R2.blk i _ _ h2
 have hg : blkOf (updf ρ σ.h.length (.slice none 0 0) i) = some g:=by rw [r1]; rfl
 have K3 : Keeps (cxOf B (updf ρ σ.h.length (.slice none 0 0)) (updf (hf σ.h) σ.h.length (LB.row e sz [])) w) (cxOf B (updf ρ σ.h.length (.slice none 0 0)) (updf (updf (hf σ.h) σ.h.length (LB.row e sz [])) i (.cells t (cs.set j (.row σ.h.length)))) w):=.put (by rw [h2]; trivial) trivial hg (World.grownBy.refl _ _)
 refine ⟨updf ρ σ.h.length (.slice none 0 0),?_,?_,?_,hr.defers⟩
 ·simp only [e2]
  exact DnL.keep K3 _ _ (DnL.keep KK _ _ hr.slots)
 ·simp only [e2]
  exact DnL.keep K3 _ _ (DnL.keep KK _ _ hr.ghost)
 ·simp only [e2]
  refine R2.put (by rw [h2]; trivial) trivial hg r3 (World.grownBy.refl _ _) (fun t' cs' e1=>?_) (fun e' sz' els' e1=>by cases e1)
  injection e1 with e3 e4
  subst e3 e4
  have r5:=DnL.keep K3 _ _ r4
  obtain ⟨u,h5,h6⟩:=r5.at_ j _ hj
  simp only [Dn] at h6
  have h4 : vs.set j u = vs:=set_same h5
  refine ⟨g,vs,r1,r2,r3,?_⟩
  have:=r5.set j (t:=.row σ.h.length) (u:=u) (by
   simp only [Dn]
   refine ⟨?_,?_⟩
   ·show LB.here (updf _ i _ σ.h.length)
    rw [updf_ne _ _ (Ne.symm hin),updf_same]; trivial
   ·show _ = updf ρ σ.h.length _ σ.h.length
    rw [updf_same]; exact h6)
  rwa [h4] at this
end
section
variable {P : Program} {B : Nat} {w0 : World} {h : List LB} {s : List TV} {o : Oper} {tv : TV}
theorem foldl_sets : ∀ (l : List Value) (off k : Nat) (cs : Array Value),off + k + l.length ≤ cs.size→((l.zipIdx k).foldl (fun cs (x : Value × Nat)=>cs.setIfInBounds (off + x.2) x.1) cs).toList = setsV cs.toList (off + k) l
 | [],off,k,cs,h=>by simp [setsV]
 | u :: l,off,k,cs,h=>by
  simp only [List.zipIdx_cons,List.foldl_cons]
  rw [foldl_sets l off (k + 1) _ (by simp at h ⊢; omega),Array.toList_setIfInBounds,show off + (k + 1) = off + k + 1 by omega,setsV_cons _ _ _ _ (by simp at h ⊢; omega)]
theorem fold_cells (v : Value) (off : Nat) (cs : Array Value) (hl : off + v.cells.size ≤ cs.size) : (v.cells.zipIdx.foldl (fun cs (x : Value × Nat)=>cs.setIfInBounds (off + x.2) x.1) cs).toList = setsV cs.toList off v.cells.toList:=by
 rw [← Array.foldl_toList,Array.toList_zipIdx]
 exact foldl_sets _ off 0 cs (by simpa using hl)
def fillT (pl : Nat→Option (Nat × Nat)) : List TV→List (Nat × List TV)→Option (List TV)
 | cells,[]=>some cells
 | cells,(i,l) :: rest=>match pl i with
  | none=>none
  | some (off,size)=>if l.length = size∧off + l.length ≤ cells.length then fillT pl (setsV cells off l) rest else none
theorem fill_dn {C : Cx} {pl : Nat→Option (Nat × Nat)} : ∀ (ps : List (Nat × List TV)) (qs : List (Nat × Value)) (cells : List TV) (vs : Array Value) (r : List TV),(∀ k : Nat,(ps[k]?.map (·.1)) = (qs[k]?.map (·.1)))→(∀ (k : Nat) p q,ps[k]? = some p→qs[k]? = some q→DnL C p.2 q.2.cells.toList) →
  DnL C cells vs.toList→fillT pl cells ps = some r→∃ vs',Instr.fill pl vs qs = some vs'∧DnL C r vs'.toList
 | [],qs,cells,vs,r,hk,hd,hc,hf=>by
  have : qs = []:=by
   cases qs with
   | nil=>rfl
   | cons q qs=>have:=hk 0; simp at this
  subst this
  simp only [fillT,Option.some.injEq] at hf
  subst hf
  exact ⟨vs,rfl,hc⟩
 | (i,l) :: ps,[],cells,vs,r,hk,hd,hc,hf=>by have:=hk 0; simp at this
 | (i,l) :: ps,(i',v) :: qs,cells,vs,r,hk,hd,hc,hf=>by
  have h0:=hk 0
  simp at h0
  subst h0
  have hd0:=hd 0 _ _ rfl rfl
  have hl:=hd0.len
  simp only [fillT] at hf
  simp only [Instr.fill]
  split at hf
  ·cases hf
  ·rename_i off size hpl
   by_cases hcond : l.length = size∧off + l.length ≤ cells.length
   ·rw [if_pos hcond] at hf
    simp only [hpl]
    have hcl:=hc.len
    have hs1 : v.cells.size = l.length:=by simpa using hl
    have hs2 : cells.length = vs.size:=by simpa using hcl.symm
    rw [if_neg (by simp; omega)]
    refine fill_dn ps qs _ _ r (fun k=>by simpa using hk (k + 1)) (fun k p q hp hq=>hd (k + 1) p q (by simpa using hp) (by simpa using hq)) ?_ hf
    rw [fold_cells _ _ _ (by omega)]
    exact setsV_dn off hc hd0
   ·rw [if_neg hcond] at hf
    cases hf
def PlOk (P : Program) : List (Nat × Nat)→List (Nat × Nat)→Prop
 | [],pl=>pl = []
 | (off,ft) :: fs,pl=>∃ n pl' tf,pl = (off,n) :: pl'∧tiOf P ft = some tf∧tf.n = n∧PlOk P fs pl'
theorem places_run {w : World} : ∀ (fs : List Field) (pl : List (Nat × Nat)),PlOk P (fs.map fun f=>(f.offset,f.type)) pl→(fs.mapM (fun f=>(do pure (f.offset,← sizeOf f.type) : Sem (Nat × Nat)))).run P w = .ok pl w
 | [],pl,h=>by simp only [List.map_nil,PlOk] at h; subst h; simp
 | f :: fs,pl,h=>by
  simp only [List.map_cons,PlOk] at h
  obtain ⟨n,pl',tf,rfl,h1,h2,h3⟩:=h
  simp only [List.mapM_cons,Sem.run_bind,ti_size h1,Result.andThen_ok,Sem.run_pure,places_run fs pl' h3,h2]
def partsT (s : List TV) : List (Nat × Operand)→Option (List (Nat × List TV))
 | []=>some []
 | (i,x) :: ps=>match cellsT (tev s x),partsT s ps with
  | some l,some ls=>some ((i,l) :: ls)
  | _,_=>none
theorem partsT_spec {s : List TV} : ∀ {ps : List (Nat × Operand)} {ls : List (Nat × List TV)},partsT s ps = some ls→(∀ k : Nat,ls[k]?.map (·.1) = ps[k]?.map (·.1))∧∀ (k : Nat) p q,ls[k]? = some p→ps[k]? = some q→cellsT (tev s q.2) = some p.2
 | [],ls,h=>by simp only [partsT,Option.some.injEq] at h; subst h; simp
 | (i,x) :: ps,ls,h=>by
  simp only [partsT] at h
  split at h
  ·rename_i l ls' h1 h2
   injection h with h
   subst h
   obtain ⟨h3,h4⟩:=partsT_spec h2
   refine ⟨fun k=>?_,fun k p q hp hq=>?_⟩
   ·cases k with
    | zero=>rfl
    | succ k=>simpa using h3 k
   ·cases k with
    | zero=>simp at hp hq; subst hp hq; exact h1
    | succ k=>exact h4 k p q (by simpa using hp) (by simpa using hq)
  ·cases h
theorem S_build {t : TypeId} {parts : Array (Nat × Operand)} {z : Value} {zc r : List TV} {pl : List (Nat × Nat)} {ls : List (Nat × List TV)} {ti : TI} (ho : o.op = .build t parts) (ht : tiOf P t = some ti) (hk : ti.k = 1) (hz : (P.info? t).map (·.zero) = some (some z)) (hzc : cellsT (ofV z) = some zc)
  (hpl : PlOk P ti.fs pl) (hp : partsT s parts.toList = some ls) (hr : fillT (pl[·]?) zc ls = some r) : TStep P B w0 h s o (.agg r) none:=.same fun ρ h' w a H R hh=>by
 obtain ⟨fs,h1,h2⟩:=ti_struct ht hk
 rw [h2] at hpl
 obtain ⟨h3,h4⟩:=partsT_spec hp
 obtain ⟨vs',h5,h6⟩:=fill_dn (C:=cxOf B ρ h' w) ls (parts.toList.map fun (i,x)=>(i,a.eval x)) zc z.cells r (fun k=>by rw [h3 k]; simp [List.getElem?_map,Option.map_map,Function.comp_def]) (fun k p q hpk hqk=>by
  rw [List.getElem?_map,Option.map_eq_some_iff] at hqk
  obtain ⟨⟨i,x⟩,hq,rfl⟩:=hqk
  have hx : x ∈ o.op.operands.toList:=by
   have hm:=List.mem_of_getElem? hq
   simp only [ho,Op.operands,List.mem_map]
   exact ⟨(i,x),hm,rfl⟩
  exact R.cellsT (hh x hx) (h4 k p _ hpk hq)) (R.cellsT (ofV_dn _ z) hzc) hr
 have hm : (fs.mapM (fun f=>(do pure (f.offset,← sizeOf f.type) : Sem (Nat × Nat)))).run P w = .ok pl.toArray w:=by
  rw [← Array.toArray_toList (xs:=fs),List.mapM_toArray,Sem.run_map,places_run _ _ hpl]
  rfl
 have e1 : (parts.map fun (i,x)=>(i,a.eval x)).toList = parts.toList.map fun (i,x)=>(i,a.eval x):=by simp
 have e2 : (fun i : Nat=>pl.toArray[i]?) = fun i : Nat=>pl[i]?:=by funext i; simp
 refine ⟨.agg vs',?_,by simp only [Dn]; exact ⟨vs'.toList,by simp,h6⟩⟩
 simp only [execOp,ho,Instr.build,Sem.run_bind,zero_run hz,Result.andThen_ok,run_underlying h1,hm,e1,e2,h5,Sem.run_pure]
def idxs : Nat→List Operand→List (Nat × Operand)
 | _,[]=>[]
 | k,x :: xs=>(k,x) :: idxs (k + 1) xs
def cellsTs (s : List TV) : List Operand→Option (List (List TV))
 | []=>some []
 | x :: xs=>match cellsT (tev s x),cellsTs s xs with
  | some l,some ls=>some (l :: ls)
  | _,_=>none
theorem fill_row {C : Cx} {a : Act} {sz : Nat} (hcell : ∀ x l,cellsT (tev s x) = some l→Dn C (tev s x) (a.eval x)→DnL C l (a.eval x).cells.toList) : ∀ (xs : List Operand) (els : List (List TV)) (k : Nat) (vs : Array Value),cellsTs s xs = some els→(∀ x ∈ xs,Dn C (tev s x) (a.eval x))→(∀ c ∈ els,c.length = sz)→vs.size = (k + xs.length) * sz →
  ∃ vs' css,Instr.fill (fun i=>some (i * sz,sz)) vs ((idxs k xs).map fun (i,x)=>(i,a.eval x)) = some vs'∧DnLL C els css∧(∀ c ∈ css,c.length = sz)∧vs'.toList = vs.toList.take (k * sz) ++ css.flatten
 | [],els,k,vs,hc,_,_,hl=>by
  simp only [cellsTs,Option.some.injEq] at hc
  subst hc
  refine ⟨vs,[],rfl,DnLL.nil,by simp,?_⟩
  simp at hl ⊢
  rw [List.take_of_length_le (by simp; omega)]
 | x :: xs,els,k,vs,hc,hd,hs,hl=>by
  simp only [cellsTs] at hc
  split at hc
  ·rename_i l ls h1 h2
   injection hc with hc
   subst hc
   have hx:=hcell x l h1 (hd x (by simp))
   have hlx:=hx.len
   have hls:=hs l (by simp)
   have hsz : (a.eval x).cells.size = sz:=by simp at hlx; omega
   have hkl : k * sz + sz ≤ vs.size:=by
    rw [hl,List.length_cons,show k + (xs.length + 1) = (k + 1) + xs.length by omega,Nat.add_mul,Nat.add_mul,Nat.one_mul]; omega
   simp only [idxs,List.map_cons,Instr.fill]
   rw [if_neg (by simp; omega)]
   have hsize : ((a.eval x).cells.zipIdx.foldl (fun cs (x : Value × Nat)=>cs.setIfInBounds (k * sz + x.2) x.1) vs).toList = setsV vs.toList (k * sz) (a.eval x).cells.toList:=fold_cells _ _ _ (by omega)
   have hlen2 : (setsV vs.toList (k * sz) (a.eval x).cells.toList).length = vs.size:=by rw [setsV_len _ _ _ (by simp; omega)]; simp
   obtain ⟨vs',css,h3,h4,h5,h6⟩:=fill_row hcell xs ls (k + 1) ((a.eval x).cells.zipIdx.foldl (fun cs (x : Value × Nat)=>cs.setIfInBounds (k * sz + x.2) x.1) vs) h2 (fun y hy=>hd y (by simp [hy])) (fun c hc=>hs c (by simp [hc])) (by
    rw [← Array.length_toList,hsize,hlen2,hl,List.length_cons]; congr 1; omega)
   refine ⟨vs',(a.eval x).cells.toList :: css,h3,DnLL.cons hx h4,fun c hc=>?_,?_⟩
   ·rcases List.mem_cons.1 hc with rfl | hc
    ·simpa using hsz
    ·exact h5 c hc
   ·rw [h6,hsize,List.flatten_cons,← List.append_assoc]
    congr 1
    unfold setsV
    rw [Nat.add_mul,Nat.one_mul,List.take_append,List.take_of_length_le (by simp; omega)]
    congr 1
    rw [List.length_take,Array.length_toList,Nat.min_eq_left (by omega),show k * sz + sz - k * sz = sz by omega,List.take_append_of_le_length (by simp; omega),List.take_of_length_le (by simp; omega)]
  ·cases hc
theorem S_buildSlice {t : TypeId} {len : Nat} {parts : Array (Nat × Operand)} {xs : List Operand} {els : List (List TV)} {z : Value} {ti te : TI} (ho : o.op = .buildSlice t len parts) (ht : tiOf P t = some ti) (hk : ti.k = 3) (he : tiOf P ti.el = some te) (hz : (P.info? ti.el).map (·.zero) = some (some z))
  (hp : parts.toList = idxs 0 xs) (hl : xs.length = len) (hc : cellsTs s xs = some els) (hs : els.all (fun c=>decide (c.length = te.n)) = true) (hb : len * te.n ≤ 16777216) (hn : len ≤ 9223372036854775807) : TStep P B w0 h s o (.row h.length) (some (.row ti.el te.n els)):=.new (fun ρ h' w a H R hh=>by
 have hs' : ∀ c ∈ els,c.length = te.n:=fun c hc=>by simpa using List.all_eq_true.1 hs c hc
 have hels : els.length = len:=by
  rw [← hl]
  clear hp hl hs hs' ho hh
  induction xs generalizing els with
  | nil=>simp only [cellsTs,Option.some.injEq] at hc; subst hc; rfl
  | cons x xs ih=>
   simp only [cellsTs] at hc
   split at hc
   ·rename_i l ls h1 h2
    injection hc with hc
    subst hc
    simp [ih h2]
   ·cases hc
 have hopnd : ∀ x ∈ xs,x ∈ o.op.operands.toList:=by
  have key : ∀ (xs : List Operand) (k : Nat),(idxs k xs).map (·.2) = xs:=by
   intro xs
   induction xs with
   | nil=>intro k; rfl
   | cons x xs ih=>intro k; simp [idxs,ih]
  intro x hx
  simp only [ho,Op.operands,hp,key]
  exact hx
 obtain ⟨zs,hzs⟩ : ∃ zs : Array Value,(if len * te.n = 0 then (#[] : Array Value) else z.cells) = zs:=⟨_,rfl⟩
 obtain ⟨vs',css,h3,h4,h5,h6⟩:=fill_row (C:=cxOf B ρ h' w) (a:=a) (s:=s) (sz:=te.n) (fun x l h1 h2=>R.cellsT h2 h1) xs els 0 ((Array.range (len * te.n)).map (zs[· % zs.size]!)) hc (fun x hx=>hh x (hopnd x hx)) hs' (by simp [hl])
 have e1 : (parts.map fun (i,x)=>(i,a.eval x)).toList = (idxs 0 xs).map fun (i,x)=>(i,a.eval x):=by rw [← hp]; simp
 simp only [Nat.zero_mul,List.take_zero,List.nil_append] at h6
 have hvs : vs' = css.flatten.toArray:=by apply Array.ext'; simpa using h6
 have hb' : ¬ (len * te.n > 2 ^ 24):=by omega
 refine ⟨.slice (some ⟨w.heap.size,0,none⟩) len len,w.alloc (.cells vs' ti.el),.slice (some ⟨w.heap.size,0,none⟩) len len,?_,(Below.refl _ _).alloc (Nat.le_refl _) _,?_,?_,?_,?_⟩
 ·by_cases h0 : len * te.n = 0
  ·rw [if_pos h0] at hzs
   subst hzs
   simp only [execOp,ho,Instr.buildSlice,Sem.run_bind,run_underlying (ti_slice ht hk),Result.andThen_ok,ti_size he,hb',if_false,Sem.run_ite,Sem.run_pure,e1,h0,if_true] at h3 ⊢
   simp only [h3,newRow,Sem.run_bind,Sem.run_pure,run_newObj_alloc,Result.andThen_ok]
   simp
  ·rw [if_neg h0] at hzs
   subst hzs
   simp only [execOp,ho,Instr.buildSlice,Sem.run_bind,run_underlying (ti_slice ht hk),Result.andThen_ok,ti_size he,hb',if_false,Sem.run_ite,Sem.run_pure,e1,h0,zero_run hz] at h3 ⊢
   simp only [h3,newRow,Sem.run_bind,Sem.run_pure,run_newObj_alloc,Result.andThen_ok]
 ·intro g hg
  simp only [blkOf,Option.some.injEq] at hg
  subst hg
  simp
 ·intro t cs e'; cases e'
 ·intro e sz els' e'
  injection e' with e2 e3 e4
  subst e2 e3 e4
  have hcl:=h4.len
  have hfl : css.flatten.length = els.length * te.n:=by
   rw [← hcl]
   clear h3 h4 h6 hcl hvs
   induction css with
   | nil=>simp
   | cons x css ih=>rw [List.flatten_cons,List.length_append,ih (fun y hy=>h5 y (by simp [hy])),h5 x (by simp),List.length_cons,Nat.add_mul]; omega
  refine ⟨_,len,css,by rw [hels],⟨hfl,.inr ⟨w.heap.size,len,vs',by rw [hels],R.size,heap_alloc_new w _,by omega,by unfold maxLen; omega,by rw [hvs]; simpa [hels] using hfl,?_⟩⟩,h5,h4⟩
  rw [hvs,List.take_of_length_le (by simp only []; rw [← hfl]; simp)]
 ·intro C hr hp'
  simp only [Dn]
  exact ⟨hp',hr.symm⟩) trivial
theorem S_makeSlice {t : TypeId} {l c : Operand} {k k' : IntKind} {n m : Nat} {N M : Int} {z : Value} {zc : List TV} {ti te : TI} (ho : o.op = .makeSlice t l c) (ht : tiOf P t = some ti) (hk : ti.k = 3) (he : tiOf P ti.el = some te) (hz : (P.info? ti.el).map (·.zero) = some (some z)) (hzc : cellsT (ofV z) = some zc) (hzl : zc.length = te.n) (h0 : 0 < te.n)
  (hl : tev s l = .v (.int k N)) (hc : tev s c = .v (.int k' M)) (hN : N = (n : Int)) (hM : M = (m : Int)) (hnm : n ≤ m) (hb : m * te.by_ ≤ 140737488355328) (hm : m ≤ 9223372036854775807) : TStep P B w0 h s o (.row h.length) (some (.row ti.el te.n (List.replicate n zc))):=.new (fun ρ h' w a H R hh=>by
 have h1:=hh l (by simp [ho,Op.operands])
 have h2:=hh c (by simp [ho,Op.operands])
 rw [hl] at h1
 rw [hc] at h2
 simp only [Dn] at h1 h2
 subst hN hM
 obtain ⟨i,hi,hs,hy⟩:=ti_info he
 have hzi : i.zero = some z:=by rw [hi] at hz; simpa using hz
 have hb2 : (i.bytes : Int) * (m : Int) ≤ 281474976710656:=by
  rw [hy]
  have : ((te.by_ * m : Nat) : Int) ≤ 281474976710656:=by rw [Nat.mul_comm]; omega
  rwa [Int.natCast_mul] at this
 have hr:=run_make (P:=P) w t ti.el i z (ti_slice ht hk) hi hzi k k' n m (by omega) (by omega) hb2 (by omega)
 simp only [Int.toNat_natCast,hs] at hr
 have hzd:=R.cellsT (ofV_dn _ z) hzc
 have hzs : z.cells.size = te.n:=by have:=hzd.len; simp at this; omega
 refine ⟨.slice (some ⟨w.heap.size,0,none⟩) n m,_,.slice (some ⟨w.heap.size,0,none⟩) n m,by simp [execOp,ho,h1,h2,hr]; rfl,(Below.refl _ _).alloc (Nat.le_refl _) _,?_,?_,?_,?_⟩
 ·intro g hg
  simp only [blkOf,Option.some.injEq] at hg
  subst hg
  simp
 ·intro t cs e'; cases e'
 ·intro e sz els' e'
  injection e' with e2 e3 e4
  subst e2 e3 e4
  have hmc : ∀ q,(madeCells z.cells (q * te.n)).toList = (List.replicate q z.cells.toList).flatten:=by
   intro q
   apply List.ext_getElem?
   intro j
   have hfl : ∀ q,((List.replicate q z.cells.toList).flatten).length = q * te.n:=by
    intro q
    induction q with
    | zero=>simp
    | succ q ih=>rw [List.replicate_succ,List.flatten_cons,List.length_append,ih,Nat.add_mul]; simp [hzs]; omega
   rcases Nat.lt_or_ge j (q * te.n) with hj | hj
   ·have hq : j / te.n < q:=Nat.div_lt_of_lt_mul (by rw [Nat.mul_comm]; exact hj)
    have hr2:=flat_at te.n (List.replicate q z.cells.toList) (j / te.n) (j % te.n) z.cells.toList (fun x hx=>by rw [List.eq_of_mem_replicate hx]; simpa using hzs) (by simp [List.getElem?_replicate,hq]) (Nat.mod_lt _ h0)
    rw [show j / te.n * te.n + j % te.n = j by rw [Nat.mul_comm]; exact Nat.div_add_mod j te.n] at hr2
    rw [hr2]
    have hjm : j % te.n < z.cells.size:=by rw [hzs]; exact Nat.mod_lt _ h0
    simp [madeCells,hj,hzs]
    rw [Array.getElem?_eq_getElem hjm,getElem!_pos z.cells (j % te.n) hjm]
   ·rw [List.getElem?_eq_none (by simp [madeCells]; omega),List.getElem?_eq_none (by rw [hfl]; exact hj)]
  refine ⟨some ⟨w.heap.size,0,none⟩,m,List.replicate n z.cells.toList,by simp,⟨?_,.inr ⟨w.heap.size,m,_,by simp,R.size,heap_alloc_new w _,by simpa using hnm,by unfold maxLen; omega,by simp [madeCells],?_⟩⟩,fun x hx=>by rw [List.eq_of_mem_replicate hx]; simpa using hzs,?_⟩
  ·have : ∀ q,((List.replicate q z.cells.toList).flatten).length = q * te.n:=by
    intro q
    induction q with
    | zero=>simp
    | succ q ih=>rw [List.replicate_succ,List.flatten_cons,List.length_append,ih,Nat.add_mul]; simp [hzs]; omega
   simpa using this n
  ·rw [hmc m]
   have : ∀ p q,p ≤ q→((List.replicate q z.cells.toList).flatten).take (p * te.n) = (List.replicate p z.cells.toList).flatten:=by
    intro p
    induction p with
    | zero=>intro q _; simp
    | succ p ih=>
     intro q hpq
     obtain ⟨q,rfl⟩ : ∃ q',q = q' + 1:=⟨q - 1,by omega⟩
     rw [List.replicate_succ,List.replicate_succ,List.flatten_cons,List.flatten_cons,Nat.add_mul,Nat.one_mul,Nat.add_comm (p * te.n),List.take_append,List.take_of_length_le (by simp [hzs])]
     simp only [Array.length_toList,hzs,show te.n + p * te.n - te.n = p * te.n by omega]
     rw [ih q (by omega)]
   simpa using this n m hnm
  ·have : ∀ q,DnLL (cxOf B ρ h' w) (List.replicate q zc) (List.replicate q z.cells.toList):=by
    intro q
    induction q with
    | zero=>simp [DnLL]
    | succ q ih=>rw [List.replicate_succ,List.replicate_succ]; exact DnLL.cons hzd ih
   exact this n
 ·intro C hr hp'
  simp only [Dn]
  exact ⟨hp',hr.symm⟩) trivial
end
end Go.Proofs.YtpgfhkbnngjegaaGreatDoor

namespace Go.Proofs.YtpgfhkbnngjegaaGreatDoor
open Go.RowKit
def slots (x : Nat→Value) : List Tmp→Nat→Array Value→Array Value
 | [],_,t=>t
 | d :: ds,k,t=>slots x ds (k + 1) (t.setIfInBounds d (x k))
def frameOf (a : Act) (ds : List Tmp) (x : Nat→Value) : Act:={ a with tmps:=slots x ds 0 a.tmps }
theorem slots_other (x : Nat→Value) (v : Value) : ∀ (ds : List Tmp) (k : Nat) (t : Array Value) (d : Tmp),d ∉ ds→slots x ds k (t.setIfInBounds d v) = (slots x ds k t).setIfInBounds d v
 | [],_,_,_,_=>rfl
 | e :: ds,k,t,d,h=>by
  simp only [List.mem_cons,not_or] at h
  unfold slots
  rw [← slots_other x v ds (k + 1) _ d h.2]
  congr 1
  apply Array.ext_getElem?
  intro i
  simp only [Array.getElem?_setIfInBounds,Array.size_setIfInBounds]
  by_cases h3 : d = i <;> by_cases h4 : e = i <;> simp_all
theorem slots_congr (x y : Nat→Value) : ∀ (ds : List Tmp) (k : Nat) (t : Array Value),(∀ j,j < ds.length→x (k + j) = y (k + j))→slots x ds k t = slots y ds k t
 | [],_,_,_=>rfl
 | d :: ds,k,t,h=>by
  unfold slots
  have h0:=h 0 (by simp)
  simp only [Nat.add_zero] at h0
  rw [h0]
  exact slots_congr x y ds (k + 1) _ fun j hj=>by have:=h (j + 1) (by simp; omega); rwa [show k + 1 + j = k + (j + 1) by omega]
def upd (x : Nat→Value) (i : Nat) (v : Value) : Nat→Value:=fun j=>if j = i then v else x j
theorem slots_put (x : Nat→Value) (v : Value) : ∀ (ds : List Tmp) (k i : Nat) (t : Array Value) (d : Tmp),ds.Nodup→ds[i]? = some d→(slots x ds k t).setIfInBounds d v = slots (upd x (k + i) v) ds k t
 | [],_,_,_,_,_,h=>by simp at h
 | e :: ds,k,0,t,d,hn,h=>by
  simp only [List.getElem?_cons_zero,Option.some.injEq] at h
  subst h
  have he : e ∉ ds:=(List.nodup_cons.1 hn).1
  unfold slots
  rw [← slots_other x v ds (k + 1) _ e he]
  have h1 : (t.setIfInBounds e (x k)).setIfInBounds e v = t.setIfInBounds e (upd x (k + 0) v k):=by
   apply Array.ext_getElem?
   intro i
   simp only [Array.getElem?_setIfInBounds,Array.size_setIfInBounds,upd,Nat.add_zero,if_true]
   by_cases h3 : e = i <;> simp_all
  rw [h1]
  exact slots_congr _ _ ds (k + 1) _ fun j _=>by unfold upd; rw [if_neg (by omega)]
 | e :: ds,k,i + 1,t,d,hn,h=>by
  simp only [List.getElem?_cons_succ] at h
  unfold slots
  rw [slots_put x v ds (k + 1) i _ d (List.nodup_cons.1 hn).2 h]
  have h1 : upd x (k + (i + 1)) v k = x k:=by unfold upd; rw [if_neg (by omega)]
  rw [h1,show k + 1 + i = k + (i + 1) by omega]
theorem slots_self (t : Array Value) : ∀ (ds : List Tmp) (k : Nat) (x : Nat→Value),(∀ j d,ds[j]? = some d→x (k + j) = t.getD d undef)→slots x ds k t = t
 | [],_,_,_=>rfl
 | d :: ds,k,x,h=>by
  unfold slots
  have h0:=h 0 d rfl
  simp only [Nat.add_zero] at h0
  have h1 : t.setIfInBounds d (x k) = t:=by
   apply Array.ext_getElem?
   intro i
   simp only [Array.getElem?_setIfInBounds]
   by_cases h3 : d = i
   ·subst h3
    rw [if_pos rfl,h0]
    by_cases h4 : d < t.size
    ·simp [h4]
    ·simp [h4]
   ·rw [if_neg h3]
  rw [h1]
  exact slots_self t ds (k + 1) x fun j e hj=>by have:=h (j + 1) e (by simpa using hj); rwa [show k + 1 + j = k + (j + 1) by omega]
section
variable {P : Program} {ops : Array Oper} {Q : Exit→Act→World→Prop}
def leftOf (n : Nat) (listed : Array Bool) : Nat:=((List.range n).filter fun i=>!listed.getD i true).length
theorem leftOf_set {n i : Nat} {listed : Array Bool} (hi : i < n) (hl : listed.getD i true = false) : leftOf n listed = leftOf n (listed.setIfInBounds i true) + 1:=by
 have his : i < listed.size:=by
  rcases Nat.lt_or_ge i listed.size with h | h
  ·exact h
  ·simp [Array.getElem?_eq_none h] at hl
 have key : ∀ m,m ≤ n→leftOf m listed = leftOf m (listed.setIfInBounds i true) + if i < m then 1 else 0:=by
  intro m
  induction m with
  | zero=>intro _; simp [leftOf]
  | succ m ih=>
   intro hm
   have:=ih (by omega)
   unfold leftOf at this ⊢
   rw [List.range_succ,List.filter_append,List.filter_append,List.length_append,List.length_append,this]
   by_cases him : i = m
   ·subst him
    have h1 : (listed.setIfInBounds i true).getD i true = true:=by simp [his]
    rw [List.filter_cons_of_pos (by rw [hl]; rfl),List.filter_cons_of_neg (by rw [h1]; simp)]
    simp
   ·have h1 : (listed.setIfInBounds i true).getD m true = listed.getD m true:=by
     simp only [Array.getD_eq_getD_getElem?,Array.getElem?_setIfInBounds]
     rw [if_neg him]
    have h2 : ∀ b : Bool,List.filter (fun j=>!(listed.setIfInBounds i true).getD j true) [m] = List.filter (fun j=>!listed.getD j true) [m]:=fun _=>by
     simp only [List.filter_cons,List.filter_nil,h1]
    rw [h2 true]
    by_cases hlt : i < m
    ·rw [if_pos hlt,if_pos (by omega)]; omega
    ·rw [if_neg hlt,if_neg (by omega)]; omega
 have:=key n (Nat.le_refl _)
 rwa [if_pos hi] at this
def backB (ops : Array Oper) : Bool:=(List.range ops.size).all fun i=>((ops[i]?).map fun o=>o.after.all fun e=>!Region.binds .any e || decide (e.on < i)).getD true
theorem backB_spec (h : backB ops = true) {i : Nat} {o : Oper} (ho : ops[i]? = some o) : ∀ e ∈ o.after,Region.binds .any e = true→e.on < i:=by
 intro e he hb
 have hi:=(Array.getElem?_eq_some_iff.1 ho).1
 have h1:=List.all_eq_true.1 h i (List.mem_range.2 hi)
 simp only [ho,Option.map_some,Option.getD_some] at h1
 have h2:=Array.all_eq_true.1 h1
 obtain ⟨j,hj,rfl⟩:=Array.mem_iff_getElem.1 he
 have h3:=h2 j hj
 simpa [hb] using h3
theorem wpAny_inv {n : Nat} (hb : backB ops = true) (hn : n ≤ ops.size)
  (hno : ∀ listed,HeadInv .any ops n listed→(∃ i,i < n∧listed.getD i true = false)→∀ t,n ≤ t→t ∉ Region.ready .any ops listed)
  (I : Array Bool→Act→World→Prop)
  (hstep : ∀ listed a w i,HeadInv .any ops n listed→I listed a w→i < n→listed.getD i true = false→(∀ o,ops[i]? = some o→∀ e ∈ o.after,Region.binds .any e = true→listed.getD e.on false = true) →
   wpOp P ops Q i (fun a' w'=>I (listed.setIfInBounds i true) a' w') a w)
  (hfin : ∀ listed a w,HeadInv .any ops n listed→(∀ i,i < n→listed.getD i true = true)→I listed a w→wpAny P .any ops Q (ops.size - n) listed a w) :
  ∀ (f : Nat) (listed : Array Bool) (a : Act) (w : World),HeadInv .any ops n listed→leftOf n listed = f→I listed a w→wpAny P .any ops Q (f + (ops.size - n)) listed a w
 | 0,listed,a,w,inv,hf,hI=>by
  rw [Nat.zero_add]
  refine hfin listed a w inv (fun i hi=>?_) hI
  cases h : listed.getD i true with
  | true=>rfl
  | false=>have:=leftOf_set hi h; omega
 | f + 1,listed,a,w,inv,hf,hI=>by
  rw [show f + 1 + (ops.size - n) = f + (ops.size - n) + 1 by omega]
  have hex : ∃ i,i < n∧listed.getD i true = false:=by
   unfold leftOf at hf
   have : (List.range n).filter (fun i=>!listed.getD i true) ≠ []:=fun e=>by rw [e] at hf; simp at hf
   obtain ⟨i,hi⟩:=List.exists_mem_of_ne_nil _ this
   rw [List.mem_filter,List.mem_range] at hi
   exact ⟨i,hi.1,by simpa using hi.2⟩
  have hno':=hno listed inv hex
  refine ⟨fun h=>?_,fun i hi=>?_⟩
  ·exfalso
   have hleast : ∃ i,i < n∧listed.getD i true = false∧∀ j,j < i→listed.getD j true = true:=by
    obtain ⟨i,hi,hl⟩:=hex
    induction i using Nat.strongRecOn with
    | _ i ih=>
     by_cases hall : ∀ j,j < i→listed.getD j true = true
     ·exact ⟨i,hi,hl,hall⟩
     ·simp only [Classical.not_forall] at hall
      obtain ⟨j,hj,hjl⟩:=hall
      exact ih j hj (by omega) (by simpa using hjl)
   obtain ⟨i,hi,hl,hall⟩:=hleast
   have hio : i < ops.size:=by omega
   have : i ∈ Region.ready .any ops listed:=mem_ready.2 ⟨hl,ops[i],by simp [hio],fun e he hbe=>by
    have h1:=backB_spec hb (o:=ops[i]) (i:=i) (by simp [hio]) e he hbe
    have h2:=hall e.on h1
    have h3 : e.on < listed.size:=by rw [inv.size]; omega
    simpa [Array.getD,h3] using h2⟩
   rw [h] at this
   cases this
  ·have hin : i < n:=by
    rcases Nat.lt_or_ge i n with h | h
    ·exact h
    ·exact absurd hi (hno' i h)
   obtain ⟨hl,o,ho,hall⟩:=mem_ready.1 hi
   refine wpOp_mono (fun a' w' h=>?_) (hstep listed a w i inv hI hin hl (fun o' ho' e he hbe=>by
    have : o' = o:=Option.some.inj (ho'.symm.trans ho)
    subst this
    exact hall e he hbe))
   exact wpAny_inv hb hn hno I hstep hfin f _ a' w' (inv.set hi hin) (by have:=leftOf_set hin hl; omega) h
def headOf (n m : Nat) : Array Bool:=((List.replicate n true) ++ List.replicate (m - n) false).toArray
theorem headOf_eq {n : Nat} {listed : Array Bool} (hn : n ≤ ops.size) (inv : HeadInv .any ops n listed) (h : ∀ i,i < n→listed.getD i true = true) : listed = headOf n ops.size:=by
 apply Array.ext (by simp [headOf,inv.size]; omega)
 intro i h1 h2
 have hs:=inv.size
 simp only [headOf,List.getElem_toArray]
 by_cases hi : i < n
 ·rw [List.getElem_append_left (by simpa using hi)]
  have:=h i hi
  simpa [h1] using this
 ·rw [List.getElem_append_right (by simpa using hi)]
  have:=inv.tail i (by omega) (by omega)
  simpa [h1] using this
def ptrBlock : Value→Option Nat
 | .pointer (some a)=>some a.block
 | _=>none
def dstsB (l : List Oper) (ds : List Tmp) : Bool:=decide (l.map (·.dst) = ds.map some) && decide ds.Nodup
end
section
variable {P : Program} {Q : Exit→Act→World→Prop} {id : Nat} {l : List Oper} {a : Act} {w : World}
end
end Go.Proofs.YtpgfhkbnngjegaaGreatDoor
