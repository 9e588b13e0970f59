/- Contracts over trees, and calls by them. Condition: what the program's table says of functions. -/
import Derived.Test.YtpgfhkbnngjegaaGreatDoorT4
namespace Go.Proofs.YtpgfhkbnngjegaaGreatDoor
open Go.RowKit
set_option linter.unusedVariables false
set_option linter.unusedSimpArgs false
mutual
def untag : TV→TV
 | .agg ts=>.agg (untagL ts)
 | .tup ts=>.tup (untagL ts)
 | .fn f ts=>.fn f (untagL ts)
 | .sl b els=>.sl false (untagLL els)
 | .any=>.any
 | .v x=>.v x
 | .nil_=>.nil_
 | .ptr i off=>.ptr i off
 | .row i=>.row i
 | .eptr ts=>.eptr (untagL ts)
 | .osl e sz els=>.osl e sz els
 | .z i t=>.z i t
 | .win i k sz=>.win i k sz
def untagL : List TV→List TV
 | []=>[]
 | t :: ts=>untag t :: untagL ts
def untagLL : List (List TV)→List (List TV)
 | []=>[]
 | t :: ts=>untagL t :: untagLL ts
end
mutual
def Pu : TV→Prop
 | .agg ts=>PuL ts
 | .tup ts=>PuL ts
 | .fn f ts=>PuL ts
 | .sl b els=>PuLL els
 | .any=>True
 | .v x=>True
 | .nil_=>True
 | .ptr i off=>False
 | .row i=>False
 | .eptr ts=>PuL ts
 | .osl e sz els=>False
 | .z _ _=>False
 | .win _ _ _=>False
def PuL : List TV→Prop
 | []=>True
 | t :: ts=>Pu t∧PuL ts
def PuLL : List (List TV)→Prop
 | []=>True
 | t :: ts=>PuL t∧PuLL ts
end
mutual
def Fr : TV→Prop
 | .agg ts=>FrL ts
 | .tup ts=>FrL ts
 | .fn f ts=>FrL ts
 | .sl b els=>b = true∧FrLL els
 | .any=>True
 | .v x=>True
 | .nil_=>True
 | .ptr i off=>False
 | .row i=>False
 | .eptr ts=>False
 | .osl e sz els=>False
 | .z _ _=>False
 | .win _ _ _=>False
def FrL : List TV→Prop
 | []=>True
 | t :: ts=>Fr t∧FrL ts
def FrLL : List (List TV)→Prop
 | []=>True
 | t :: ts=>FrL t∧FrLL ts
end
theorem untagLL_len : ∀ els : List (List TV),(untagLL els).length = els.length
 | []=>rfl
 | t :: ts=>by simp [untagLL,untagLL_len ts]
theorem untagLL_map {α : Type} (f : α→List TV) : ∀ l : List α,untagLL (l.map f) = l.map fun x=>untagL (f x)
 | []=>rfl
 | x :: l=>by simp [untagLL,untagLL_map f l]
theorem PuLL_map {α : Type} (f : α→List TV) : ∀ l : List α,(∀ x ∈ l,PuL (f x))→PuLL (l.map f)
 | [],_=>by simp [PuLL]
 | x :: l,h=>by simp only [List.map_cons,PuLL]; exact ⟨h x (by simp),PuLL_map f l fun y hy=>h y (by simp [hy])⟩
theorem FrLL_map {α : Type} (f : α→List TV) : ∀ l : List α,(∀ x ∈ l,FrL (f x))→FrLL (l.map f)
 | [],_=>by simp [FrLL]
 | x :: l,h=>by simp only [List.map_cons,FrLL]; exact ⟨h x (by simp),FrLL_map f l fun y hy=>h y (by simp [hy])⟩
mutual
theorem Dn.pu {C C' : Cx} (hw : C'.w = C.w) (hS : ∀ k,k < C.w.heap.size→C'.S k) : ∀ (t : TV) (u : Value),Pu t→Dn C t u→Dn C' (untag t) u
 | .any,_,_,_=>by simp [Dn,untag]
 | .v x,u,_,h=>by simp only [Dn,untag] at h ⊢; exact h
 | .nil_,u,_,h=>by simp only [Dn,untag] at h ⊢; exact h
 | .agg ts,u,p,h=>by
  simp only [Dn,untag,Pu] at h p ⊢
  obtain ⟨vs,h1,h2⟩:=h
  exact ⟨vs,h1,DnL.pu hw hS ts vs p h2⟩
 | .tup ts,u,p,h=>by
  simp only [Dn,untag,Pu] at h p ⊢
  obtain ⟨vs,h1,h2⟩:=h
  exact ⟨vs,h1,DnL.pu hw hS ts vs p h2⟩
 | .fn f ts,u,p,h=>by
  simp only [Dn,untag,Pu] at h p ⊢
  obtain ⟨vs,h1,h2⟩:=h
  exact ⟨vs,h1,DnL.pu hw hS ts vs p h2⟩
 | .ptr i off,u,p,_=>by simp only [Pu] at p
 | .row i,u,p,_=>by simp only [Pu] at p
 | .eptr ts,u,p,h=>by
  simp only [Dn,untag,Pu] at h p ⊢
  obtain ⟨ad,vs,h2,h3,h4,h5,h6⟩:=h
  exact ⟨ad,vs,h2,hS _ h4,by rw [hw]; exact h4,DnL.pu hw hS ts vs p h5,by rw [hw]; exact h6⟩
 | .osl e sz els,u,p,_=>by simp only [Pu] at p
 | .z _ _,u,p,_=>by simp only [Pu] at p
 | .win _ _ _,u,p,_=>by simp only [Pu] at p
 | .sl b els,u,p,h=>by
  simp only [Dn,untag,Pu] at h p ⊢
  obtain ⟨A,c,css,sz,h1,h2,h3,h4,h5,h6,h7⟩:=h
  rw [untagLL_len]
  refine ⟨A,c,css,sz,h1,h2,h3,fun ha=>by rw [h4 ha]; rfl,h5,DnLL.pu hw hS els css p h6,fun ad ha=>?_⟩
  obtain ⟨h8,h9⟩:=h7 ad ha
  refine ⟨fun hne=>?_,fun j x hx=>by rw [hw]; exact h9 j x hx⟩
  have hne' : els ≠ []:=by rintro rfl; exact hne rfl
  obtain ⟨h10,h11,h12⟩:=h8 hne'
  exact ⟨hS _ h11,by rw [hw]; exact h11,fun hb=>by cases hb⟩
theorem DnL.pu {C C' : Cx} (hw : C'.w = C.w) (hS : ∀ k,k < C.w.heap.size→C'.S k) : ∀ (ts : List TV) (us : List Value),PuL ts→DnL C ts us→DnL C' (untagL ts) us
 | [],us,_,h=>by simp only [DnL,untagL] at h ⊢; exact h
 | t :: ts,us,p,h=>by
  simp only [DnL,untagL,PuL] at h p ⊢
  obtain ⟨u,us',h1,h2,h3⟩:=h
  exact ⟨u,us',h1,Dn.pu hw hS t u p.1 h2,DnL.pu hw hS ts us' p.2 h3⟩
theorem DnLL.pu {C C' : Cx} (hw : C'.w = C.w) (hS : ∀ k,k < C.w.heap.size→C'.S k) : ∀ (ts : List (List TV)) (us : List (List Value)),PuLL ts→DnLL C ts us→DnLL C' (untagLL ts) us
 | [],us,_,h=>by simp only [DnLL,untagLL] at h ⊢; exact h
 | t :: ts,us,p,h=>by
  simp only [DnLL,untagLL,PuLL] at h p ⊢
  obtain ⟨u,us',h1,h2,h3⟩:=h
  exact ⟨u,us',h1,DnL.pu hw hS t u p.1 h2,DnLL.pu hw hS ts us' p.2 h3⟩
end
mutual
theorem Dn.fr {C C' : Cx} (hw : C'.w = C.w) (hB : C'.B ≤ C.B) (hS : ∀ k,C.S k→C.B ≤ k→k < C.w.heap.size→C'.S k) : ∀ (t : TV) (u : Value),Fr t→Dn C t u→Dn C' t u
 | .any,_,_,_=>by simp [Dn]
 | .v x,u,_,h=>by simp only [Dn] at h ⊢; exact h
 | .nil_,u,_,h=>by simp only [Dn] at h ⊢; exact h
 | .agg ts,u,p,h=>by
  simp only [Dn,Fr] at h p ⊢
  obtain ⟨vs,h1,h2⟩:=h
  exact ⟨vs,h1,DnL.fr hw hB hS ts vs p h2⟩
 | .tup ts,u,p,h=>by
  simp only [Dn,Fr] at h p ⊢
  obtain ⟨vs,h1,h2⟩:=h
  exact ⟨vs,h1,DnL.fr hw hB hS ts vs p h2⟩
 | .fn f ts,u,p,h=>by
  simp only [Dn,Fr] at h p ⊢
  obtain ⟨vs,h1,h2⟩:=h
  exact ⟨vs,h1,DnL.fr hw hB hS ts vs p h2⟩
 | .ptr i off,u,p,_=>by simp only [Fr] at p
 | .row i,u,p,_=>by simp only [Fr] at p
 | .eptr ts,u,p,_=>by simp only [Fr] at p
 | .osl e sz els,u,p,_=>by simp only [Fr] at p
 | .z _ _,u,p,_=>by simp only [Fr] at p
 | .win _ _ _,u,p,_=>by simp only [Fr] at p
 | .sl b els,u,p,h=>by
  simp only [Dn,Fr] at h p ⊢
  obtain ⟨A,c,css,sz,h1,h2,h3,h4,h5,h6,h7⟩:=h
  refine ⟨A,c,css,sz,h1,h2,h3,h4,h5,DnLL.fr hw hB hS els css p.2 h6,fun ad ha=>?_⟩
  obtain ⟨h8,h9⟩:=h7 ad ha
  refine ⟨fun hne=>?_,fun j x hx=>by rw [hw]; exact h9 j x hx⟩
  obtain ⟨h10,h11,h12⟩:=h8 hne
  exact ⟨hS _ h10 (h12 p.1).1 h11,by rw [hw]; exact h11,fun hb=>⟨Nat.le_trans hB (h12 p.1).1,by rw [hw]; exact (h12 p.1).2⟩⟩
theorem DnL.fr {C C' : Cx} (hw : C'.w = C.w) (hB : C'.B ≤ C.B) (hS : ∀ k,C.S k→C.B ≤ k→k < C.w.heap.size→C'.S k) : ∀ (ts : List TV) (us : List Value),FrL ts→DnL C ts us→DnL C' ts us
 | [],us,_,h=>by simp only [DnL] at h ⊢; exact h
 | t :: ts,us,p,h=>by
  simp only [DnL,FrL] at h p ⊢
  obtain ⟨u,us',h1,h2,h3⟩:=h
  exact ⟨u,us',h1,Dn.fr hw hB hS t u p.1 h2,DnL.fr hw hB hS ts us' p.2 h3⟩
theorem DnLL.fr {C C' : Cx} (hw : C'.w = C.w) (hB : C'.B ≤ C.B) (hS : ∀ k,C.S k→C.B ≤ k→k < C.w.heap.size→C'.S k) : ∀ (ts : List (List TV)) (us : List (List Value)),FrLL ts→DnLL C ts us→DnLL C' ts us
 | [],us,_,h=>by simp only [DnLL] at h ⊢; exact h
 | t :: ts,us,p,h=>by
  simp only [DnLL,FrLL] at h p ⊢
  obtain ⟨u,us',h1,h2,h3⟩:=h
  exact ⟨u,us',h1,DnL.fr hw hB hS t u p.1 h2,DnLL.fr hw hB hS ts us' p.2 h3⟩
end
def rsCx (base : Nat) (w' : World) (ov : Value) : Cx:=
 ⟨w',fun k=>base ≤ k∧blkOf ov ≠ some k,base,fun _=>.nilFunc,fun _=>False,fun u e sz n xs=>u = ov∧w'.ownsRow base e sz u n xs,fun _ _=>False⟩
def TMeets (P : Program) (f : FuncId) (args : List TV) (r : TV) : Prop:=
 ∀ (C : Cx) (vals : List Value),GlB C.w.heap.size C.w→DnL C args vals→Calls P f vals.toArray C.w fun e w'=>∃ u ov,e = .returned u∧Below C.w.heap.size C.w w' ∧
  (∀ g,blkOf ov = some g→C.w.heap.size ≤ g∧g < w'.heap.size)∧Dn (rsCx C.w.heap.size w' ov) r u
mutual
def argT (h : List LB) : TV→Option TV
 | .v x=>some (.v x)
 | .nil_=>some (.sl true [])
 | .sl b els=>some (.sl b els)
 | .row i=>match hf h i with
  | .row e sz els=>some (.sl true els)
  | _=>none
 | .agg ts=>(argTL h ts).map .agg
 | .fn f ts=>(argTL h ts).map (.fn f)
 | .z _ t=>some t
 | .win i k sz=>match hf h i with
  | .row e sz' els=>if sz = sz' then some (.sl true (els.drop k)) else none
  | _=>none
 | .any | .tup _ | .ptr .. | .eptr _ | .osl ..=>none
def argTL (h : List LB) : List TV→Option (List TV)
 | []=>some []
 | t :: ts=>match argT h t,argTL h ts with
  | some t',some ts'=>some (t' :: ts')
  | _,_=>none
end
def cxAll (B : Nat) (ρ : Nat→Value) (h : Nat→LB) (w : World) : Cx:={ cxOf B ρ h w with S:=fun _=>True }
theorem Keeps.all {B : Nat} {ρ : Nat→Value} {h : Nat→LB} {w : World} : Keeps (cxOf B ρ h w) (cxAll B ρ h w) where
 blk k _ hk:=⟨rfl,trivial,hk⟩
 base:=Nat.le_refl _
 loc i hi:=⟨hi,rfl⟩
 own _ _ _ _ _ ho:=ho
 zn i k _ hz hk:=⟨rfl,hz,hk⟩
section
variable {P : Program} {B : Nat} {w0 : World} {h : List LB} {s : List TV} {o : Oper} {tv : TV}
theorem row_sl {C : Cx} {A : Option Addr} {c : Nat} {e : TypeId} {sz : Nat} {els : List (List TV)} {css : List (List Value)} {base : Nat} {b : Bool} (ho : C.w.ownsRow base e sz (.slice A els.length c) els.length css.flatten) (hs : ∀ x ∈ css,x.length = sz) (hd : DnLL C els css)
  (hS : ∀ ad,A = some ad→C.S ad.block) (hB : b = true→C.B ≤ base) : Dn C (.sl b els) (.slice A els.length c):=by
 simp only [Dn]
 have hcap:=own_cap ho
 refine ⟨A,c,css,sz,rfl,hcap.1,hcap.2,fun ha=>?_,hs,hd,fun ad ha=>?_⟩
 ·subst ha
  rcases ho.2 with ⟨_,h0⟩ | ⟨g,cap,cur,hv,_⟩
  ·exact List.eq_nil_of_length_eq_zero h0
  ·cases hv
 ·subst ha
  rcases ho.2 with ⟨hv,_⟩ | ⟨g,cap,cur,hv,hb,hg,_⟩
  ·cases hv
  ·injection hv with hA
   injection hA with hA
   subst hA
   refine ⟨fun _=>⟨hS _ rfl,(Array.getElem?_eq_some_iff.1 hg).1,fun hb'=>⟨Nat.le_trans (hB hb') hb,_,_,hg⟩⟩,fun j x hx=>?_⟩
   exact ho.cells (g:=g) rfl j x hx
theorem win_sl {C : Cx} {g c k : Nat} {e : TypeId} {sz : Nat} {els : List (List TV)} {css : List (List Value)} {base : Nat} {b : Bool} (ho : C.w.ownsRow base e sz (.slice (some ⟨g,0,none⟩) els.length c) els.length css.flatten) (hs : ∀ x ∈ css,x.length = sz) (hd : DnLL C els css) (hk : k ≤ els.length)
  (hS : base ≤ g→C.S g) (hB : b = true→C.B ≤ base) : Dn C (.sl b (els.drop k)) (.slice (some ⟨g,k * sz,none⟩) (els.length - k) (c - k)):=by
 simp only [Dn]
 have hcap:=own_cap ho
 have hfl : css.flatten.drop (k * sz) = (css.drop k).flatten:=by
  have key : ∀ (css : List (List Value)) (k : Nat),(∀ x ∈ css,x.length = sz)→css.flatten.drop (k * sz) = (css.drop k).flatten:=by
   intro css
   induction css with
   | nil=>intro k _; simp
   | cons x l ih=>
    intro k hx
    cases k with
    | zero=>simp
    | succ k=>
     have h1:=hx x (by simp)
     rw [List.drop_succ_cons,List.flatten_cons,← ih k fun y hy=>hx y (by simp [hy])]
     rw [Nat.succ_mul,Nat.add_comm,← List.drop_drop,← h1,List.drop_left]
  exact key css k hs
 refine ⟨some ⟨g,k * sz,none⟩,c - k,css.drop k,sz,by rw [List.length_drop],by rw [List.length_drop]; omega,by omega,fun ha=>(by cases ha),fun x hx=>hs x (List.mem_of_mem_drop hx),hd.drop k,fun ad ha=>?_⟩
 injection ha with ha
 subst ha
 have hcell:=fun j x hx=>ho.cells (g:=g) rfl j x hx
 rcases ho.2 with ⟨hv,_⟩ | ⟨g',cap,cur,hv,hb,hg,_⟩
 ·cases hv
 ·injection hv with hA
  injection hA with hA
  injection hA with hA
  subst hA
  refine ⟨fun _=>⟨hS hb,(Array.getElem?_eq_some_iff.1 hg).1,fun hb'=>⟨Nat.le_trans (hB hb') hb,_,_,hg⟩⟩,fun j x hx=>?_⟩
  rw [← hfl,List.getElem?_drop] at hx
  have h1:=hcell (k * sz + j) x hx
  have e1 : (⟨g,0,none⟩ : Addr).add (k * sz + j) = (⟨g,k * sz,none⟩ : Addr).add j:=by unfold Addr.add; split <;> split <;> simp_all <;> omega
  rwa [e1] at h1
theorem win_slA {C : Cx} {A A' : Option Addr} {c k : Nat} {e : TypeId} {sz : Nat} {els : List (List TV)} {css : List (List Value)} {base : Nat} {b : Bool} (ho : C.w.ownsRow base e sz (.slice A els.length c) els.length css.flatten) (hs : ∀ x ∈ css,x.length = sz) (hd : DnLL C els css) (hk : k ≤ els.length)
  (hS : ∀ g,base ≤ g→C.S g) (hB : b = true→C.B ≤ base) (hA : WinA A A' k c sz) : Dn C (.sl b (els.drop k)) (.slice A' (els.length - k) (c - k)):=by
 rcases Nat.eq_or_lt_of_le hk with h0 | h0
 ·have hc : c ≤ maxLen:=by
   rcases ho.2 with ⟨hv,_⟩ | ⟨g,cap,cur,hv,_,_,_,hcm,_⟩
   ·injection hv with _ _ hv; subst hv; simp
   ·injection hv with _ _ hv; subst hv; exact hcm
  rw [h0,List.drop_length,Nat.sub_self]
  simp only [Dn]
  exact ⟨A',c - els.length,[],sz,rfl,by simp,by omega,by simp,by simp,by simp [DnLL],fun ad ha=>⟨fun h=>absurd rfl h,fun j x hx=>by simp at hx⟩⟩
 ·rcases ho.2 with ⟨hv,h1⟩ | ⟨g,cap,cur,hv,hb,hg,hnc,_⟩
  ·omega
  ·injection hv with hv _ hc
   subst hv hc
   obtain ⟨ad,h1,h2⟩:=hA (by omega)
   injection h1 with h1
   subst h1
   subst h2
   have:=win_sl (k:=k) ho hs hd hk (hS g) hB
   simpa using this
mutual
theorem argT_dn {ρ : Nat→Value} {h' : Nat→LB} {w : World} (H : HS h h') (R : Rel B w0 ρ h' w) : ∀ (t : TV) (t' : TV) (u : Value),argT h t = some t'→Dn (cxOf B ρ h' w) t u→Dn (cxAll B ρ h' w) t' u
 | .v x,t',u,e,hd=>by simp only [argT,Option.some.injEq] at e; subst e; exact Dn.keep .all _ _ hd
 | .nil_,t',u,e,hd=>by
  simp only [argT,Option.some.injEq] at e
  subst e
  simp only [Dn] at hd ⊢
  exact ⟨none,0,[],0,hd,Nat.le_refl _,by simp [maxLen],by simp,by simp,by simp [DnLL],fun ad ha=>by cases ha⟩
 | .sl b els,t',u,e,hd=>by simp only [argT,Option.some.injEq] at e; subst e; exact Dn.keep .all _ _ hd
 | .row i,t',u,e,hd=>by
  simp only [argT] at e
  split at e
  ·rename_i e' sz els hi
   injection e with e
   subst e
   simp only [Dn] at hd
   obtain ⟨A,c,css,r1,r2,r3,r4⟩:=R.row i _ _ _ (H.same hi (by simp) hd.1)
   have hu : u = .slice A els.length c:=hd.2.trans r1
   rw [hu]
   rw [r1] at r2
   exact row_sl (C:=cxAll B ρ h' w) r2 r3 (DnLL.keep .all _ _ r4) (fun _ _=>trivial) (fun _=>Nat.le_refl _)
  ·cases e
 | .agg ts,t',u,e,hd=>by
  simp only [argT,Option.map_eq_some_iff] at e
  obtain ⟨ts',e1,rfl⟩:=e
  simp only [Dn] at hd ⊢
  obtain ⟨vs,h1,h2⟩:=hd
  exact ⟨vs,h1,argTL_dn H R ts ts' vs e1 h2⟩
 | .fn f ts,t',u,e,hd=>by
  simp only [argT,Option.map_eq_some_iff] at e
  obtain ⟨ts',e1,rfl⟩:=e
  simp only [Dn] at hd ⊢
  obtain ⟨vs,h1,h2⟩:=hd
  exact ⟨vs,h1,argTL_dn H R ts ts' vs e1 h2⟩
 | .z i t,t',u,e,hd=>by
  simp only [argT,Option.some.injEq] at e
  subst e
  simp only [Dn] at hd
  exact DnZ.dn (C:=cxAll B ρ h' w) (fun _ _ _=>trivial) (Nat.le_refl _) _ _ hd.2
 | .win i k sz,t',u,e,hd=>by
  simp only [argT] at e
  split at e
  ·rename_i e' sz' els hi
   split at e
   ·rename_i hsz
    subst hsz
    injection e with e
    subst e
    simp only [Dn] at hd
    obtain ⟨hp,A0,n,c0,hr,hk,A1,rfl,hw⟩:=hd
    obtain ⟨A,c,css,r1,r2,r3,r4⟩:=R.row i _ _ _ (H.same hi (by simp) hp)
    have hr : ρ i = .slice A0 n c0:=hr
    rw [hr] at r1
    injection r1 with r5 r6 r7
    subst r5 r6 r7
    rw [hr] at r2
    exact win_slA (C:=cxAll B ρ h' w) r2 r3 (DnLL.keep .all _ _ r4) hk (fun _ _=>trivial) (fun _=>Nat.le_refl _) hw
   ·cases e
  ·cases e
 | .any,_,_,e,_ | .tup _,_,_,e,_ | .ptr _ _,_,_,e,_ | .eptr _,_,_,e,_ | .osl _ _ _,_,_,e,_=>by simp [argT] at e
theorem argTL_dn {ρ : Nat→Value} {h' : Nat→LB} {w : World} (H : HS h h') (R : Rel B w0 ρ h' w) : ∀ (ts ts' : List TV) (us : List Value),argTL h ts = some ts'→DnL (cxOf B ρ h' w) ts us→DnL (cxAll B ρ h' w) ts' us
 | [],ts',us,e,hd=>by simp only [argTL,Option.some.injEq] at e; subst e; simp only [DnL] at hd ⊢; exact hd
 | t :: ts,ts',us,e,hd=>by
  simp only [argTL] at e
  split at e
  ·rename_i t1 ts1 e1 e2
   injection e with e
   subst e
   simp only [DnL] at hd ⊢
   obtain ⟨u,us',h1,h2,h3⟩:=hd
   exact ⟨u,us',h1,argT_dn H R t t1 u e1 h2,argTL_dn H R ts ts1 us' e2 h3⟩
  ·cases e
end
def argP (h : List LB) : TV→Option TV
 | .ptr i off=>match hf h i with
  | .cells _ cs=>(argTL h (cs.drop off)).map .eptr
  | _=>none
 | .eptr ts=>(argTL h ts).map .eptr
 | t=>argT h t
def argPL (h : List LB) : List TV→Option (List TV)
 | []=>some []
 | t :: ts=>match argP h t,argPL h ts with
  | some t',some ts'=>some (t' :: ts')
  | _,_=>none
theorem argP_dn {ρ : Nat→Value} {h' : Nat→LB} {w : World} (H : HS h h') (R : Rel B w0 ρ h' w) (t : TV) (t' : TV) (u : Value) (e : argP h t = some t') (hd : Dn (cxOf B ρ h' w) t u) : Dn (cxAll B ρ h' w) t' u:=by
 cases t
 case ptr i off=>
  simp only [argP] at e
  split at e
  ·rename_i t0 cs hi
   simp only [Option.map_eq_some_iff] at e
   obtain ⟨ts',e1,rfl⟩:=e
   simp only [Dn] at hd
   obtain ⟨h1,g,h2,rfl⟩:=hd
   obtain ⟨g',vs,q1,q2,q3,q4⟩:=R.blk i t0 cs (H.same hi (by simp) h1)
   have h2 : blkOf (ρ i) = some g:=h2
   rw [q1] at h2
   simp only [blkOf,Option.some.injEq] at h2
   subst h2
   have h3:=argTL_dn H R _ _ _ e1 (q4.drop off)
   simp only [Dn]
   refine ⟨⟨g',off,none⟩,vs.drop off,rfl,trivial,q2.lt,h3,fun j x hx=>?_⟩
   have h4:=q2.cell (off + j)
   have e0 : (⟨g',off,none⟩ : Addr).add j = ⟨g',off + j,none⟩:=by unfold Addr.add; split <;> simp_all
   show w.cell? _ = _
   rw [e0,h4]
   rw [List.getElem?_drop] at hx
   simpa using hx
  ·cases e
 case eptr ts=>
  simp only [argP,Option.map_eq_some_iff] at e
  obtain ⟨ts',e1,rfl⟩:=e
  simp only [Dn] at hd
  obtain ⟨ad,vs,h2,h3,h4,h5,h6⟩:=hd
  simp only [Dn]
  exact ⟨ad,vs,h2,trivial,h4,argTL_dn H R _ _ _ e1 h5,h6⟩
 all_goals exact argT_dn H R _ _ _ e hd
theorem argPL_dn {ρ : Nat→Value} {h' : Nat→LB} {w : World} (H : HS h h') (R : Rel B w0 ρ h' w) : ∀ (ts ts' : List TV) (us : List Value),argPL h ts = some ts'→DnL (cxOf B ρ h' w) ts us→DnL (cxAll B ρ h' w) ts' us
 | [],ts',us,e,hd=>by simp only [argPL,Option.some.injEq] at e; subst e; simp only [DnL] at hd ⊢; exact hd
 | t :: ts,ts',us,e,hd=>by
  simp only [argPL] at e
  split at e
  ·rename_i t1 ts1 e1 e2
   injection e with e
   subst e
   simp only [DnL] at hd ⊢
   obtain ⟨u,us',h1,h2,h3⟩:=hd
   exact ⟨u,us',h1,argP_dn H R t t1 u e1 h2,argPL_dn H R ts ts1 us' e2 h3⟩
  ·cases e
mutual
def intern (n : Nat) : TV→TV
 | .osl e sz els=>.row n
 | .agg ts=>.agg (internL n ts)
 | .tup ts=>.tup (internL n ts)
 | t=>t
def internL (n : Nat) : List TV→List TV
 | []=>[]
 | t :: ts=>intern n t :: internL n ts
end
mutual
def theRow : TV→Option LB
 | .osl e sz els=>some (.row e sz els)
 | .agg ts=>theRowL ts
 | .tup ts=>theRowL ts
 | _=>none
def theRowL : List TV→Option LB
 | []=>none
 | t :: ts=>match theRow t with
  | some b=>some b
  | none=>theRowL ts
end
mutual
theorem Dn.intern {C C' : Cx} {n : Nat} (K : Keeps C C') (hρ : ∀ u e sz m xs,C.ow u e sz m xs→C'.pres n∧u = C'.ρ n) : ∀ (t : TV) (u : Value),Dn C t u→Dn C' (intern n t) u
 | .osl e sz els,u,h=>by
  simp only [Dn,Go.Proofs.YtpgfhkbnngjegaaGreatDoor.intern] at h ⊢
  obtain ⟨A,c,css,h1,h2,h3,h4⟩:=h
  exact hρ _ _ _ _ _ h2
 | .agg ts,u,h=>by
  simp only [Dn,Go.Proofs.YtpgfhkbnngjegaaGreatDoor.intern] at h ⊢
  obtain ⟨vs,h1,h2⟩:=h
  exact ⟨vs,h1,DnL.intern K hρ ts vs h2⟩
 | .tup ts,u,h=>by
  simp only [Dn,Go.Proofs.YtpgfhkbnngjegaaGreatDoor.intern] at h ⊢
  obtain ⟨vs,h1,h2⟩:=h
  exact ⟨vs,h1,DnL.intern K hρ ts vs h2⟩
 | .any,u,h | .v _,u,h | .nil_,u,h | .fn _ _,u,h | .ptr _ _,u,h | .row _,u,h | .sl _ _,u,h | .eptr _,u,h | .z _ _,u,h | .win _ _ _,u,h=>by
  simp only [Go.Proofs.YtpgfhkbnngjegaaGreatDoor.intern]
  exact Dn.keep K _ _ h
theorem DnL.intern {C C' : Cx} {n : Nat} (K : Keeps C C') (hρ : ∀ u e sz m xs,C.ow u e sz m xs→C'.pres n∧u = C'.ρ n) : ∀ (ts : List TV) (us : List Value),DnL C ts us→DnL C' (internL n ts) us
 | [],us,h=>by simp only [DnL,internL] at h ⊢; exact h
 | t :: ts,us,h=>by
  simp only [DnL,internL] at h ⊢
  obtain ⟨u,us',h1,h2,h3⟩:=h
  exact ⟨u,us',h1,Dn.intern K hρ t u h2,DnL.intern K hρ ts us' h3⟩
end
mutual
theorem theRow_dn {C : Cx} {b : LB} : ∀ (t : TV) (u : Value),theRow t = some b→Dn C t u→∃ e sz els A c css,b = .row e sz els∧C.ow (.slice A els.length c) e sz els.length css.flatten∧(∀ x ∈ css,x.length = sz)∧DnLL C els css
 | .osl e sz els,u,e1,h=>by
  simp only [theRow,Option.some.injEq] at e1
  subst e1
  simp only [Dn] at h
  obtain ⟨A,c,css,h1,h2,h3,h4⟩:=h
  subst h1
  exact ⟨e,sz,els,A,c,css,rfl,h2,h3,h4⟩
 | .agg ts,u,e1,h=>by
  simp only [theRow] at e1
  simp only [Dn] at h
  obtain ⟨vs,h1,h2⟩:=h
  exact theRowL_dn ts vs e1 h2
 | .tup ts,u,e1,h=>by
  simp only [theRow] at e1
  simp only [Dn] at h
  obtain ⟨vs,h1,h2⟩:=h
  exact theRowL_dn ts vs e1 h2
 | .any,_,e1,_ | .v _,_,e1,_ | .nil_,_,e1,_ | .fn _ _,_,e1,_ | .ptr _ _,_,e1,_ | .row _,_,e1,_ | .sl _ _,_,e1,_ | .eptr _,_,e1,_ | .z _ _,_,e1,_ | .win _ _ _,_,e1,_=>by simp [theRow] at e1
theorem theRowL_dn {C : Cx} {b : LB} : ∀ (ts : List TV) (us : List Value),theRowL ts = some b→DnL C ts us→∃ e sz els A c css,b = .row e sz els∧C.ow (.slice A els.length c) e sz els.length css.flatten∧(∀ x ∈ css,x.length = sz)∧DnLL C els css
 | [],us,e1,h=>by simp [theRowL] at e1
 | t :: ts,us,e1,h=>by
  simp only [theRowL] at e1
  simp only [DnL] at h
  obtain ⟨u,us',h1,h2,h3⟩:=h
  split at e1
  ·rename_i b' hb
   injection e1 with e1
   subst e1
   exact theRow_dn t u hb h2
  ·exact theRowL_dn ts us' e1 h3
end
def entB (P : Program) (f : FuncId) : Bool:=match P.funcs[f]? with
 | some fn => !(fn.name == "runtime.NumGoroutine") && fn.body.isSome
 | none=>false
theorem callFunc_run {f : FuncId} (hE : entB P f = true) (args : Array Value) (w : World) : (callFunc f args).run P w = .ok (.enter f args) w:=by
 unfold entB at hE
 split at hE
 ·rename_i fn hfn
  simp only [Bool.and_eq_true,Bool.not_eq_true',Option.isSome_iff_exists] at hE
  obtain ⟨h1,c,h2⟩:=hE
  have h3 : ¬ fn.name = "runtime.NumGoroutine" := by simpa using h1
  simp [callFunc,hfn,h3,h2]
 ·cases hE
theorem call_run {cl : Call} {fop : Operand} {f : FuncId} {a : Act} {caps : Array Value} (ho : o.op = .call cl) (hcl : cl.callee = .value fop) (hf : a.eval fop = .func (.func f) #[] caps) (hE : entB P f = true) (w : World) :
  (execOp a.eval o).run P w = .ok (.enter f (cl.args.map a.eval ++ caps)) w:=by
 simp [execOp,ho,resolve,hcl,hf,Deferred.ofValue,invoke,callFunc_run hE]
theorem eval_list {C : Cx} {a : Act} : ∀ l : List Operand,(∀ x ∈ l,Dn C (tev s x) (a.eval x))→DnL C (l.map (tev s)) (l.map a.eval)
 | [],_=>DnL.nil
 | x :: l,hl=>DnL.cons (hl x (by simp)) (eval_list l fun y hy=>hl y (by simp [hy]))
theorem call_enters {cl : Call} {fop : Operand} {f : FuncId} {caps ts : List TV} {r : TV} (ho : o.op = .call cl) (hcl : cl.callee = .value fop) (hf : tev s fop = .fn (.func f) caps) (hE : entB P f = true)
  (ha : argPL h (cl.args.toList.map (tev s) ++ caps) = some ts) (hm : TMeets P f ts r) {ρ : Nat→Value} {h' : Nat→LB} {w : World} {a : Act} (H : HS h h') (R : Rel B w0 ρ h' w) (hx : ∀ x ∈ o.op.operands.toList,Dn (cxOf B ρ h' w) (tev s x) (a.eval x))
  {K : Act→World→Prop} {Q : Exit→Act→World→Prop} (hK : ∀ u w' ov,Below w.heap.size w w'→(∀ g,blkOf ov = some g→w.heap.size ≤ g∧g < w'.heap.size)→Dn (rsCx w.heap.size w' ov) r u→K (a.put o.dst u) w') : o.wp P a w K Q:=by
 have h1:=hx fop (by simp [ho,Op.operands,Call.operands,hcl])
 rw [hf] at h1
 simp only [Dn] at h1
 obtain ⟨cv,h2,h3⟩:=h1
 have h4 : DnL (cxOf B ρ h' w) (cl.args.toList.map (tev s) ++ caps) (cl.args.toList.map a.eval ++ cv):=(eval_list _ fun x hx'=>hx x (by simp [ho,Op.operands,Call.operands,hcl] at hx' ⊢; exact .inr hx')).append h3
 have h5:=argPL_dn H R _ _ _ ha h4
 have h6:=hm (cxAll B ρ h' w) _ R.glb h5
 have e1 : (cl.args.map a.eval ++ cv.toArray) = (cl.args.toList.map a.eval ++ cv).toArray:=by
  apply Array.ext'
  simp
 unfold Oper.wp
 rw [call_run ho hcl h2 hE]
 unfold Oper.upon
 rw [e1]
 refine h6.mono ?_
 rintro e w' ⟨u,ov,rfl,hb,hov,hd⟩
 exact hK u w' ov hb hov hd
theorem Keeps.res {base : Nat} {w w' : World} {ρ' : Nat→Value} {hn : Nat→LB} {ov : Value} (hb : base = w.heap.size) (hB : B ≤ base) (hS : ∀ i,(hn i).here→∀ g,blkOf (ρ' i) = some g→g < base∨blkOf ov = some g) (hE : ∀ i k,(hn i).ps (ρ' i) k→k < base) :
  Keeps (rsCx base w' ov) (cxOf B ρ' hn w') where
 blk k hk1 hk2:=⟨rfl,⟨fun i hi he=>by
  obtain ⟨h1,h2⟩ : base ≤ k∧blkOf ov ≠ some k:=hk1
  rcases hS i hi k he with h3 | h3
  ·omega
  ·exact h2 h3,fun i hp=>by
  obtain ⟨h1,h2⟩ : base ≤ k∧blkOf ov ≠ some k:=hk1
  have:=hE i k hp
  omega⟩,hk2⟩
 base:=hB
 loc i hi:=hi.elim
 own _ _ _ _ _ _:=trivial
 zn i k hi _ _:=hi.elim
theorem S_call {cl : Call} {fop : Operand} {f : FuncId} {caps ts : List TV} {r : TV} (ho : o.op = .call cl) (hcl : cl.callee = .value fop) (hf : tev s fop = .fn (.func f) caps) (hE : entB P f = true)
  (ha : argPL h (cl.args.toList.map (tev s) ++ caps) = some ts) (hm : TMeets P f ts r) : TStep P B w0 h s o r none:=by
 intro ρ h' w a H _ R hx K Q hK
 refine call_enters ho hcl hf hE ha hm H R hx fun u w' ov hb hov hd=>?_
 refine hK u w' ρ (R.grow hb) (.grow hb) hb (Dn.keep (.res rfl R.size (fun i hi g hg=>.inl (R.inj i g hi hg)) fun i k hp=>(R.ps_lt hp).2.1) _ _ hd)
theorem S_call_row {cl : Call} {fop : Operand} {f : FuncId} {caps ts : List TV} {r : TV} {lb : LB} (ho : o.op = .call cl) (hcl : cl.callee = .value fop) (hf : tev s fop = .fn (.func f) caps) (hE : entB P f = true)
  (ha : argPL h (cl.args.toList.map (tev s) ++ caps) = some ts) (hm : TMeets P f ts r) (hr : theRow r = some lb) : TStep P B w0 h s o (intern h.length r) (some lb):=by
 intro ρ h' w a H hn R hx K Q hK
 refine call_enters ho hcl hf hE ha hm H R hx fun u w' ov hb hov hd=>?_
 have hnone:=hn rfl
 obtain ⟨e,sz,els,A,c,css,rfl,h1,h3,h4⟩:=theRow_dn r u hr hd
 obtain ⟨rfl,h2⟩ : Value.slice A els.length c = ov∧w'.ownsRow w.heap.size e sz (.slice A els.length c) els.length css.flatten:=h1
 have KR : Keeps (rsCx w.heap.size w' (.slice A els.length c)) (cxOf B (updf ρ h.length (.slice A els.length c)) (updf h' h.length (.row e sz els)) w'):=.res rfl R.size (fun i hi g hg=>by
  by_cases hin : i = h.length
  ·subst hin
   rw [updf_same] at hg
   exact .inr hg
  ·rw [updf_ne _ _ hin] at hi hg
   exact .inl (R.inj i g hi hg)) fun i k hp=>(R.ps_lt (ps_of_upd (lb:=.row e sz els) trivial hp)).2.1
 refine hK u w' (updf ρ h.length (.slice A els.length c)) (R.add hnone hb hov (fun _ _ e=>by cases e) (fun e' sz' els' e1=>?_)) (.add hnone hb hov) hb (Dn.intern KR (fun u' e' sz' m xs hw=>?_) _ _ hd)
 ·injection e1 with e2 e3 e4
  subst e2 e3 e4
  exact ⟨A,c,css,rfl,own_mono h2 R.size,h3,DnLL.keep KR _ _ h4⟩
 ·refine ⟨?_,?_⟩
  ·show (updf h' h.length _ h.length).here
   rw [updf_same]; trivial
  ·show u' = updf ρ h.length _ h.length
   rw [updf_same]; exact hw.1
end
end Go.Proofs.YtpgfhkbnngjegaaGreatDoor
