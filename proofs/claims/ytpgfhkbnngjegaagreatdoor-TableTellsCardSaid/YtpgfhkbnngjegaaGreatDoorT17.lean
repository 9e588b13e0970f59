/- A region that draws its order: stores into local blocks, and operations that read what these fill ahead of them. Condition: the edges that the text says. -/
import Derived.Test.YtpgfhkbnngjegaaGreatDoorT26
namespace Go.Proofs.YtpgfhkbnngjegaaGreatDoor
open Go.RowKit
set_option linter.unusedVariables false
set_option linter.unusedSimpArgs false
structure FsE where
 q : Nat
 i : Nat
 off : Nat
 ol : List TV
 old : Bool
def FsE.d (f : FsE) : StD:=⟨0,.tmp 0,.tmp 0,f.i,f.off,0,[],f.ol,⟨0,false,0,[],0,0,0,none⟩⟩
def disF (a b : FsE) : Bool:=!(Nat.beq a.i b.i) || Nat.ble (a.off + a.ol.length) b.off || Nat.ble (b.off + b.ol.length) a.off
def disAll : List FsE→Bool
 | []=>true
 | f :: r=>r.all (fun g=>disF f g && !(Nat.beq f.q g.q)) && disAll r
theorem disF_spec {a b : FsE} (h : disF a b = true) : a.i ≠ b.i∨a.off + a.ol.length ≤ b.off∨b.off + b.ol.length ≤ a.off:=by
 simp only [disF,Bool.or_eq_true,Bool.not_eq_true'] at h
 rcases h with (h | h) | h
 ·exact .inl (Nat.ne_of_beq_eq_false h)
 ·exact .inr (.inl (Nat.le_of_ble_eq_true h))
 ·exact .inr (.inr (Nat.le_of_ble_eq_true h))
theorem disAll_spec : ∀ {l : List FsE},disAll l = true→∀ f ∈ l,∀ g ∈ l,f.q ≠ g.q→f.i ≠ g.i∨f.off + f.ol.length ≤ g.off∨g.off + g.ol.length ≤ f.off
 | [],_,f,hf,_,_,_=>by simp at hf
 | x :: r,h,f,hf,g,hg,hne=>by
  simp only [disAll,Bool.and_eq_true,List.all_eq_true] at h
  rcases List.mem_cons.1 hf with rfl | hf'
  ·rcases List.mem_cons.1 hg with rfl | hg
   ·exact (hne rfl).elim
   ·exact disF_spec (h.1 g hg).1
  ·rcases List.mem_cons.1 hg with he | hg
   ·subst he
    rcases disF_spec (h.1 f hf').1 with h1 | h1 | h1
    ·exact .inl (Ne.symm h1)
    ·exact .inr (.inr h1)
    ·exact .inr (.inl h1)
   ·exact disAll_spec h.2 f hf' g hg hne
def reachB (l : List Oper) (i : Nat) : Nat→Nat→Bool
 | 0,_=>false
 | f + 1,j=>match l[j]? with
  | none=>false
  | some o=>o.after.toList.any fun e=>Region.binds .any e && (Nat.beq e.on i || reachB l i f e.on)
theorem reachB_spec {l : List Oper} {i n : Nat} {listed : Array Bool} (inv : HeadInv .any l.toArray n listed) : ∀ (f j : Nat),reachB l i f j = true→listed.getD j false = true→listed.getD i false = true
 | 0,j,h,_=>by simp [reachB] at h
 | f + 1,j,h,hj=>by
  simp only [reachB] at h
  split at h
  ·cases h
  ·rename_i o ho
   obtain ⟨e,he,h1⟩:=List.any_eq_true.1 h
   simp only [Bool.and_eq_true,Bool.or_eq_true] at h1
   have h2:=inv.closed j o (by simpa using ho) hj e (by simpa using he) h1.1
   rcases h1.2 with h3 | h3
   ·rw [Nat.eq_of_beq_eq_true h3] at h2; exact h2
   ·exact reachB_spec inv f e.on h3 h2
def setFf (h : Nat→LB) : List FsE→Nat→LB
 | []=>h
 | f :: r=>setFf (match h f.i with
  | .cells t cs=>updf h f.i (.cells t (setsV cs f.off f.ol))
  | _=>h) r
def setF (h : List LB) : List FsE→List LB
 | []=>h
 | f :: r=>setF (match hf h f.i with
  | .cells t cs=>h.set f.i (.cells t (setsV cs f.off f.ol))
  | _=>h) r
theorem setF_hf : ∀ (kn : List FsE) (h : List LB),hf (setF h kn) = setFf (hf h) kn
 | [],h=>rfl
 | f :: r,h=>by
  simp only [setF,setFf]
  rw [setF_hf r]
  cases hc : hf h f.i with
  | cells t cs=>simp only; rw [hf_set (hf_lt hc (by simp))]
  | none=>rfl
  | ext _=>rfl
  | row e sz els=>rfl
theorem setF_HS : ∀ (kn : List FsE) {h : List LB} {h' : Nat→LB},HS h h'→HS (setF h kn) (setFf h' kn)
 | [],h,h',H=>H
 | f :: r,h,h',H=>by
  simp only [setF,setFf]
  refine setF_HS r ?_
  intro k hk hnn
  cases hc : hf h f.i with
  | cells t cs=>
   have hlt : f.i < h.length:=hf_lt hc (by simp)
   rw [hc] at hk hnn
   simp only [List.length_set] at hk
   simp only at hnn ⊢
   rw [hf_set hlt] at hnn ⊢
   rcases H f.i hlt (by rw [hc]; simp) with h1 | h1
   ·rw [h1]
    simp only
    by_cases hki : k = f.i
    ·subst hki; exact .inl h1
    ·rw [updf_ne _ _ hki] at hnn ⊢; exact H k hk hnn
   ·rw [h1,hc]
    simp only
    by_cases hki : k = f.i
    ·subst hki; rw [updf_same,updf_same]; exact .inr rfl
    ·rw [updf_ne _ _ hki] at hnn
     rw [updf_ne _ _ hki,updf_ne _ _ hki]; exact H k hk hnn
  | none=>
   rw [hc] at hk hnn
   simp only at hk hnn ⊢
   have hki : k ≠ f.i:=by rintro rfl; exact hnn hc
   cases hc' : h' f.i with
   | cells t cs=>simp only; rw [updf_ne _ _ hki]; exact H k hk hnn
   | none=>exact H k hk hnn
   | ext _=>exact H k hk hnn
   | row e sz els=>exact H k hk hnn
  | ext _=>
   have hlt : f.i < h.length:=hf_lt hc (by simp)
   rw [hc] at hk hnn
   simp only at hk hnn ⊢
   rcases H f.i hlt (by rw [hc]; simp) with h2 | h2 <;> rw [h2] <;> (try rw [hc]) <;> exact H k hk hnn
  | row e sz els=>
   have hlt : f.i < h.length:=hf_lt hc (by simp)
   rw [hc] at hk hnn
   simp only at hk hnn ⊢
   rcases H f.i hlt (by rw [hc]; simp) with h2 | h2 <;> rw [h2] <;> (try rw [hc]) <;> exact H k hk hnn
section
variable {P : Program} {B : Nat} {w0 : World} {gh : List Value} {l : List Oper}
theorem Stored.fits {ρ : Nat→Value} {h : Nat→LB} {w : World} {d : StD} (R : Rel B w0 ρ h w) (hs : Stored B ρ h w d) {t : TypeId} {cs : List TV} (hi : h d.i = .cells t cs) (hne : d.ls ≠ []) : d.off + d.ls.length ≤ cs.length:=by
 obtain ⟨h1,g,vs,h2,h3,h4,h5⟩:=hs
 have hg : blkOf (ρ d.i) = some g:=by rw [h2]; rfl
 obtain ⟨us,q1,q2,q3,q4⟩:=R.cells_at hi hg
 have hl1:=h4.len
 have hl2:=q3.len
 have hpos : 0 < d.ls.length:=List.length_pos_iff.2 hne
 have h6:=h5 (d.ls.length - 1) _ (List.getElem?_eq_getElem (by omega))
 rw [q1.cell] at h6
 have h7 : d.off + (d.ls.length - 1) < us.toArray.size:=(Array.getElem?_eq_some_iff.1 h6).1
 simp at h7
 omega
theorem Rel.know1 {ρ : Nat→Value} {h : Nat→LB} {w : World} {f : FsE} (R : Rel B w0 ρ h w) (hs : Stored B ρ h w f.d) : Rel B w0 ρ (setFf h [f]) w∧Keeps (cxOf B ρ h w) (cxOf B ρ (setFf h [f]) w):=by
 simp only [setFf]
 cases hc : h f.i with
 | none=>exact ⟨R,Keeps.grow (Below.refl _ _)⟩
 | ext _=>exact ⟨R,Keeps.grow (Below.refl _ _)⟩
 | row e sz els=>exact ⟨R,Keeps.grow (Below.refl _ _)⟩
 | cells t cs=>
  simp only
  by_cases hne : f.ol = []
  ·have e1 : setsV cs f.off f.ol = cs:=by rw [hne]; simp [setsV]
   rw [e1,updf_self _ _ _ hc]
   exact ⟨R,Keeps.grow (Below.refl _ _)⟩
  ·have hfit:=Stored.fits R hs hc hne
   exact Rel.know (d:={ f.d with t0:=t,cs:=cs }) R hs hc hfit
theorem Stored.cx {ρ : Nat→Value} {h h' : Nat→LB} {w : World} {d : StD} (hs : Stored B ρ h w d) (K : Keeps (cxOf B ρ h w) (cxOf B ρ h' w)) : Stored B ρ h' w d:=hs.keep K fun g _ hg=>⟨rfl,hg⟩
theorem Rel.knowF : ∀ (kn : List FsE) {ρ : Nat→Value} {h : Nat→LB} {w : World},Rel B w0 ρ h w→(∀ f ∈ kn,Stored B ρ h w f.d)→Rel B w0 ρ (setFf h kn) w∧Keeps (cxOf B ρ h w) (cxOf B ρ (setFf h kn) w)
 | [],ρ,h,w,R,_=>⟨R,Keeps.grow (Below.refl _ _)⟩
 | f :: r,ρ,h,w,R,hs=>by
  obtain ⟨R1,K1⟩:=R.know1 (hs f (by simp))
  obtain ⟨R2,K2⟩:=Rel.knowF r R1 fun g hg=>(hs g (by simp [hg])).cx K1
  exact ⟨R2,⟨fun k hk hk2=>by
   obtain ⟨a1,a2,a3⟩:=K1.blk k hk hk2
   obtain ⟨b1,b2,b3⟩:=K2.blk k a2 a3
   exact ⟨b1.trans a1,b2,b3⟩,Nat.le_refl _,fun i hi=>⟨(K2.loc i (K1.loc i hi).1).1,rfl⟩,fun _ _ _ _ _ h=>h,fun i k hi hz hk=>by
   obtain ⟨a1,a2,a3⟩:=K1.zn i k hi hz hk
   obtain ⟨b1,b2,b3⟩:=K2.zn i k (K1.loc i hi).1 a2 a3
   exact ⟨b1.trans a1,b2,b3⟩⟩⟩
theorem Stored.keep2 {ρ ρ' : Nat→Value} {h h' : Nat→LB} {w w' : World} {d : StD} (hs : Stored B ρ h w d) (KK : Keeps (cxOf B ρ h w) (cxOf B ρ' h' w')) (hb : ∀ g,ρ d.i = .pointer (some ⟨g,0,none⟩)→g < w.heap.size→(∀ j,j < d.ls.length→w'.cell? ⟨g,d.off + j,none⟩ = w.cell? ⟨g,d.off + j,none⟩)∧g < w'.heap.size) : Stored B ρ' h' w' d:=by
 obtain ⟨h1,g,vs,h2,h3,h4,h5⟩:=hs
 obtain ⟨h6,h7⟩:=KK.loc d.i h1
 obtain ⟨h8,h9⟩:=hb g h2 h3
 have hl:=h4.len
 exact ⟨h6,g,vs,h7.trans h2,h9,DnL.keep KK _ _ h4,fun j u hj=>by rw [h8 j (by have:=(List.getElem?_eq_some_iff.1 hj).1; omega)]; exact h5 j u hj⟩
theorem Keeps.back {ρ ρ' : Nat→Value} {h h' : Nat→LB} {w0' w' : World} (K : Keeps (cxOf B ρ h' w0') (cxOf B ρ' h' w')) (hh : ∀ i,(h i).here↔(h' i).here) (he : ∀ i x,h i = .ext x→h' i = .ext x) (he2 : ∀ i x,h' i = .ext x→h i = .ext x) : Keeps (cxOf B ρ' h' w') (cxOf B ρ h w') where
 blk k hk hs:=⟨rfl,⟨fun i hi hb=>by
  have hi':=(hh i).1 hi
  have:=(K.loc i hi').2
  have : ρ' i = ρ i:=this
  exact hk.1 i hi' (by rw [this]; exact hb),fun i hp=>by
  obtain ⟨y,e1,h1⟩:=LB.ps_of hp
  have h2:=he i y e1
  have h3 : ρ' i = ρ i:=(K.loc i (by show (h' i).here; rw [h2]; trivial)).2
  exact hk.2 i (by rw [h2,h3]; exact h1)⟩,hs⟩
 base:=Nat.le_refl _
 loc i hi:=⟨(hh i).2 hi,(K.loc i hi).2.symm⟩
 own _ _ _ _ _ h:=h
 zn i k hi hz hk:=by
  have hρ : ∀ j,(h' j).here→ρ' j = ρ j:=fun j hj=>(K.loc j hj).2
  refine ⟨rfl,⟨?_,?_,fun j hj=>?_,fun j hj hp=>?_⟩,hk⟩
  ·rw [← hρ i hi]; exact hz.1
  ·obtain ⟨x,e,h1,h2⟩:=LB.zs_of hz.2.1
   rw [← hρ i hi,he2 i x e]
   exact ⟨h2,h1⟩
  ·have hj':=(hh j).1 hj
   rw [← hρ j hj']; exact hz.2.2.1 j hj'
  ·obtain ⟨y,e1,h1⟩:=LB.ps_of hp
   have h2:=he j y e1
   exact hz.2.2.2 j hj (by rw [h2,hρ j (by rw [h2]; trivial)]; exact h1)
theorem setFf_here : ∀ (kn : List FsE) (h : Nat→LB) (i : Nat),(h i).here↔(setFf h kn i).here
 | [],h,i=>Iff.rfl
 | f :: r,h,i=>by
  simp only [setFf]
  refine Iff.trans ?_ (setFf_here r _ i)
  cases hc : h f.i with
  | cells t cs=>
   simp only
   by_cases hi : i = f.i
   ·subst hi; rw [updf_same,hc]; exact Iff.rfl
   ·rw [updf_ne _ _ hi]
  | none=>exact Iff.rfl
  | ext _=>exact Iff.rfl
  | row e sz els=>exact Iff.rfl
theorem setFf_ext : ∀ (kn : List FsE) (h : Nat→LB) (i : Nat) (x : Ext),h i = .ext x→setFf h kn i = .ext x
 | [],h,i,x,e=>e
 | f :: r,h,i,x,e=>by
  simp only [setFf]
  refine setFf_ext r _ i x ?_
  cases hc : h f.i with
  | cells t cs=>
   simp only
   have hi : i ≠ f.i:=by rintro rfl; rw [hc] at e; cases e
   rw [updf_ne _ _ hi]; exact e
  | none=>exact e
  | ext _=>exact e
  | row e2 sz els=>exact e
theorem setFf_ext2 : ∀ (kn : List FsE) (h : Nat→LB) (i : Nat) (x : Ext),setFf h kn i = .ext x→h i = .ext x
 | [],h,i,x,e=>e
 | f :: r,h,i,x,e=>by
  simp only [setFf] at e
  have e1:=setFf_ext2 r _ i x e
  cases hc : h f.i with
  | cells t cs=>
   rw [hc] at e1
   simp only at e1
   by_cases hi : i = f.i
   ·subst hi; rw [updf_same] at e1; cases e1
   ·rwa [updf_ne _ _ hi] at e1
  | none=>rw [hc] at e1; exact e1
  | ext _=>rw [hc] at e1; exact e1
  | row e2 sz els=>rw [hc] at e1; exact e1
theorem PIb.fin {m : List Oper} {ix : Nat→Nat} {S : Nat→List TV} {H : Nat→List LB} {V : Nat→TV} {N : Nat→Option LB} {g : List TV} {ρ : Nat→Value} (hp : parB l m ix = true) (hix : ∀ p o,m[p]? = some o→l[ix p]? = some o) (hinj : ∀ p q,p < m.length→q < m.length→ix p = ix q→p = q)
  {listed : Array Bool} {a : Act} {w : World} {i : Nat} (hsize : listed.size = l.length) (hI : PIb B w0 gh m ix S H V N g ρ listed a w) (hi : i < m.length) {o : Oper} (ho' : m[i]? = some o) (hN : N i = none) {u : Value} {w' : World} (hb : Below w.heap.size w w') (hd : Dn (cxOf B ρ (hD m.length ix H N listed) w') (V i) u) :
  PIb B w0 gh m ix S H V N g ρ (listed.setIfInBounds (ix i) true) (a.put o.dst u) w':=by
 obtain ⟨hR,hgh,hsz,hdf,hpt⟩:=hI
 have hol:=hix i o ho'
 have hiS : ix i < listed.size:=by rw [hsize]; exact (List.getElem?_eq_some_iff.1 hol).1
 have hset : ∀ j,j < m.length→j ≠ i→(listed.setIfInBounds (ix i) true).getD (ix j) false = listed.getD (ix j) false:=fun j hjn hj=>getD_set_ne false (fun e=>hj (hinj _ _ hi hjn e).symm)
 have KK : Keeps (cxOf B ρ (hD m.length ix H N listed) w) (cxOf B ρ (hD m.length ix H N listed) w'):=.grow hb
 unfold PIb
 rw [hD_none hinj hi hN]
 refine ⟨hR.grow hb,DnL.keep KK _ _ hgh,?_,by rw [put_defers]; exact hdf,fun t v ht=>?_⟩
 ·rw [← hsz]
  cases hd' : o.dst with
  | none=>rfl
  | some d=>simp [Act.put]
 ·by_cases hdt : o.dst = some t
  ·have hv : v = u:=by
    rw [hdt] at ht
    simp only [Act.put,Array.getElem?_setIfInBounds_self] at ht
    split at ht
    ·injection ht with ht; exact ht.symm
    ·cases ht
   subst hv
   refine ⟨fun j oj hj hoj hdj _=>?_,fun hall=>?_⟩
   ·by_cases hji : j = i
    ·subst hji; exact hd
    ·exact absurd hdt ((parB_spec hp hi hj ho' hoj hdj).2 (fun e=>hji e.symm))
   ·have:=hall i o hi ho' hdt
    rw [getD_set_self hiS] at this
    cases this
  ·have ht' : a.tmps[t]? = some v:=by
    cases hd' : o.dst with
    | none=>rw [hd'] at ht; exact ht
    | some d=>
     rw [hd'] at ht
     simp only [Act.put] at ht
     rw [Array.getElem?_setIfInBounds_ne (fun e=>hdt (by rw [hd',e]))] at ht
     exact ht
   obtain ⟨q1,q2⟩:=hpt t v ht'
   refine ⟨fun j oj hj hoj hdj hlj=>?_,fun hall=>?_⟩
   ·have hji : j ≠ i:=by
     rintro rfl
     rw [ho'] at hoj
     injection hoj with hoj
     subst hoj
     exact hdt hdj
    exact Dn.keep KK _ _ (q1 j oj hj hoj hdj (by rw [← hset j hj hji]; exact hlj))
   ·refine Dn.keep KK _ _ (q2 fun j oj hj hoj hdj=>?_)
    have hji : j ≠ i:=by
     rintro rfl
     rw [ho'] at hoj
     injection hoj with hoj
     subst hoj
     exact hdt hdj
    have:=hall j oj hj hoj hdj
    rwa [hset j hj hji] at this
theorem store_core2 {Q : Exit→Act→World→Prop} {m : List Oper} {ix : Nat→Nat} {S : Nat→List TV} {H : Nat→List LB} {V : Nat→TV} {N : Nat→Option LB} {b st : Nat→Bool} {g : List TV} {ρ : Nat→Value} (R : Runs P B w0 l m S H V N b st) (hp : parB l m ix = true) (hix : ∀ p o,m[p]? = some o→l[ix p]? = some o) (hinj : ∀ p q,p < m.length→q < m.length→ix p = ix q→p = q)
  {listed : Array Bool} {a : Act} {w : World} {i : Nat} {d : StD} (hsize : listed.size = l.length) (hI : PIb B w0 gh m ix S H V N g ρ listed a w) (hi : i < m.length) (hst : ∀ o,m[i]? = some o→d.Ok P (S i) (H i) o∧N i = none)
  (hdeps : ∀ o,l.toArray[ix i]? = some o→∀ e ∈ o.after,Region.binds .any e = true→listed.getD e.on false = true) :
  wpOp P l.toArray Q (ix i) (fun a' w'=>PIb B w0 gh m ix S H V N g ρ (listed.setIfInBounds (ix i) true) a' w'∧Stored B ρ (hD m.length ix H N listed) w' d∧Keeps (cxOf B ρ (hD m.length ix H N listed) w) (cxOf B ρ (hD m.length ix H N (listed.setIfInBounds (ix i) true)) w')∧(hD m.length ix H N listed d.i).here ∧
   ∃ gg,ρ d.i = .pointer (some ⟨gg,0,none⟩)∧w.grownBy w' (some gg)∧∀ k,(k < d.off∨d.off + d.ls.length ≤ k)→w'.cell? ⟨gg,k,none⟩ = w.cell? ⟨gg,k,none⟩) a w:=by
 obtain ⟨o,ho'⟩ : ∃ o,m[i]? = some o:=⟨m[i]'hi,List.getElem?_eq_getElem _⟩
 obtain ⟨hok,hN⟩:=hst o ho'
 have hol:=hix i o ho'
 have hoa : l.toArray[ix i]? = some o:=by simpa using hol
 have hiS : ix i < listed.size:=by rw [hsize]; exact (List.getElem?_eq_some_iff.1 hol).1
 have hops : o.op.operands.toList = [d.x,d.y]:=by rw [hok.op]; rfl
 have e1:=PIb.read R hp hix hI hi hdeps ho' d.x (by rw [hops]; simp)
 have ey:=PIb.read R hp hix hI hi hdeps ho' d.y (by rw [hops]; simp)
 obtain ⟨hR,hgh,hsz,hdf,hpt⟩:=hI
 have hDn:=hD_none (H:=H) (listed:=listed) hinj hi hN
 rw [hok.hx] at e1
 simp only [Dn] at e1
 obtain ⟨p1,gg,p2,p3⟩:=e1
 have hHi : hD m.length ix H N listed d.i = .cells d.t0 d.cs:=by
  have hdi : d.i < (H i).length:=hf_lt hok.hi (by simp)
  have : hD m.length ix H N listed d.i = hf (H i) d.i:=by
   have p1' : (hD m.length ix H N listed d.i).here:=p1
   unfold hD at p1' ⊢
   split
   ·rename_i h0
    exact (R.pre' (Nat.zero_le i) (by omega) h0).symm
   ·rename_i h0
    rw [if_neg h0] at p1'
    split
    ·exact R.pre' (show i ≤ m.length by omega) (Nat.le_refl _) hdi
    ·rename_i h1
     rw [if_neg h1] at p1'
     exact p1'.elim
  rw [this]; exact hok.hi
 have e2:=hR.cellsT ey hok.hy
 obtain ⟨vs,q1,q2,q3,q4⟩:=hR.cells_at hHi p2
 have hlen:=e2.len
 have hvl:=q3.len
 have hle:=hok.le
 obtain ⟨w',r1,r2,r3⟩:=store_blk (P:=P) (off:=d.off) (a.eval d.y).cells.toList 0 w vs q1 (cells_one hR e2 hok.one) (by omega)
 have r1' : (storeVar d.t ⟨gg,d.off,none⟩ (a.eval d.y)).run P w = .ok () w':=by
  have hs : (a.eval d.y).cells.size = d.ti.n:=by rw [← hok.hl,← hlen]; simp
  simp [storeVar,ti_size hok.ht,hs,r1]
 have hhere : (hD m.length ix H N listed d.i).here:=by rw [hHi]; trivial
 have hself : updf (hD m.length ix H N listed) d.i (.cells d.t0 d.cs) = hD m.length ix H N listed:=updf_self _ _ _ hHi
 have KK : Keeps (cxOf B ρ (hD m.length ix H N listed) w) (cxOf B ρ (hD m.length ix H N listed) w'):=by
  have:=Keeps.put (B:=B) (lb:=.cells d.t0 d.cs) hhere trivial p2 r3
  rwa [hself] at this
 have hR' : Rel B w0 ρ (hD m.length ix H N listed) w':=by
  have:=hR.put (lb:=.cells d.t0 d.cs) hhere trivial p2 q2 r3 (fun t cs e=>by
   injection e with e1 e3
   subst e1 e3
   refine ⟨gg,setsV vs d.off (a.eval d.y).cells.toList,q4,by simpa using r2,q2,?_⟩
   rw [hself]
   have h1:=setsV_dn d.off (DnL.keep KK _ _ q3) (DnL.anys (C:=cxOf B ρ (hD m.length ix H N listed) w') d.ls.length (a.eval d.y).cells.toList (by omega))
   rwa [hok.any] at h1) (fun e sz els e'=>by cases e')
  rwa [hself] at this
 refine wpOp_step hoa fun K hK=>?_
 rw [show Region.wanted o (yielded l.toArray a.tmps) = true by simp [Region.wanted,hok.g]]
 simp only [if_true]
 unfold Oper.wp
 have hrun : (execOp a.eval o).run P w = .ok .skip w':=by simp [execOp,hok.op,p3,Instr.storeAt,Instr.sureAddr,r1']
 rw [hrun]
 refine hK _ _ ⟨?_,?_,by rw [hDn]; exact KK,hhere,gg,q4,r3,fun k hk=>?_⟩
 ·rw [hok.dst]
  unfold PIb
  rw [hDn]
  refine ⟨hR',DnL.keep KK _ _ hgh,by simpa [Act.put] using hsz,by simpa [Act.put] using hdf,fun t u ht=>?_⟩
  obtain ⟨z1,z2⟩:=hpt t u (by simpa [Act.put] using ht)
  refine ⟨fun j oj hj hoj hdj hlj=>?_,fun hall=>?_⟩
  ·have hji : j ≠ i:=by
    rintro rfl
    rw [ho'] at hoj
    injection hoj with hoj
    rw [← hoj,hok.dst] at hdj
    cases hdj
   exact Dn.keep KK _ _ (z1 j oj hj hoj hdj (by rw [getD_set_ne false (fun e=>hji (hinj _ _ hi hj e).symm)] at hlj; exact hlj))
  ·refine Dn.keep KK _ _ (z2 fun j oj hj hoj hdj=>?_)
   have hji : j ≠ i:=by
    rintro rfl
    rw [ho'] at hoj
    injection hoj with hoj
    rw [← hoj,hok.dst] at hdj
    cases hdj
   have:=hall j oj hj hoj hdj
   rwa [getD_set_ne false (fun e=>hji (hinj _ _ hi hj e).symm)] at this
 ·refine ⟨hhere,gg,_,q4,Nat.lt_of_lt_of_le q1.lt r3.size,DnL.keep KK _ _ e2,fun j u hj=>?_⟩
  have hjl:=(List.getElem?_eq_some_iff.1 hj).1
  rw [r2.cell]
  simp only [Nat.add_zero,List.getElem?_toArray]
  rw [setsV_at _ _ _ (by omega) hjl]
  exact hj
 ·rw [r2.cell,q1.cell]
  simp only [Nat.add_zero,List.getElem?_toArray]
  unfold setsV
  have ht : (vs.take d.off).length = d.off:=by rw [List.length_take]; omega
  have hcl : (a.eval d.y).cells.toList.length = d.ls.length:=by omega
  rcases hk with hk | hk
  ·rw [List.getElem?_append_left (by omega),List.getElem?_take_of_lt hk]
  ·rw [List.getElem?_append_right (by omega),List.getElem?_append_right (by omega),List.getElem?_drop,ht,hcl]
   congr 1
   omega
theorem know_core {Q : Exit→Act→World→Prop} {m : List Oper} {ix : Nat→Nat} {S : Nat→List TV} {H : Nat→List LB} {V : Nat→TV} {N : Nat→Option LB} {b st : Nat→Bool} {g : List TV} {ρ : Nat→Value} (R : Runs P B w0 l m S H V N b st) (hp : parB l m ix = true) (hix : ∀ p o,m[p]? = some o→l[ix p]? = some o) (hinj : ∀ p q,p < m.length→q < m.length→ix p = ix q→p = q)
  {listed : Array Bool} {a : Act} {w : World} {i : Nat} (hsize : listed.size = l.length) (hI : PIb B w0 gh m ix S H V N g ρ listed a w) (hi : i < m.length) (hdeps : ∀ o,l.toArray[ix i]? = some o→∀ e ∈ o.after,Region.binds .any e = true→listed.getD e.on false = true)
  (kn : List FsE) (hN : N i = none) (hgd : ∀ o,m[i]? = some o→Wants l (S i) o true) (hs : ∀ o,m[i]? = some o→TStep P B w0 (setF (H i) kn) (S i) o (V i) none) (hkn : ∀ f ∈ kn,Stored B ρ (hD m.length ix H N listed) w f.d) :
  wpOp P l.toArray Q (ix i) (fun a' w'=>PIb B w0 gh m ix S H V N g ρ (listed.setIfInBounds (ix i) true) a' w'∧Keeps (cxOf B ρ (hD m.length ix H N listed) w) (cxOf B ρ (hD m.length ix H N (listed.setIfInBounds (ix i) true)) w')∧Below w.heap.size w w') a w:=by
 obtain ⟨o,ho'⟩ : ∃ o,m[i]? = some o:=⟨m[i]'hi,List.getElem?_eq_getElem _⟩
 have hol:=hix i o ho'
 have hoa : l.toArray[ix i]? = some o:=by simpa using hol
 have hread:=fun x hx=>PIb.read R hp hix hI hi hdeps ho' x hx
 have hwt:=PIb.wants R hp hix hI hi hdeps ho' (hgd o ho')
 have hI0:=hI
 obtain ⟨hR,hgh,hsz,hdf,hpt⟩:=hI
 obtain ⟨hw,hst,hsk,hS1,hH1⟩:=R.step i o hi ho'
 have hHS : HS (H i) (hD m.length ix H N listed):=by
  intro k hk _
  unfold hD
  split
  ·rename_i h0
   exact .inr (R.pre' (Nat.zero_le i) (by omega) h0).symm
  ·split
   ·exact .inr (R.pre' (show i ≤ m.length by omega) (Nat.le_refl _) hk)
   ·exact .inl rfl
 obtain ⟨R1,K1⟩:=Rel.knowF kn hR hkn
 have hDn:=hD_none (H:=H) (listed:=listed) hinj hi hN
 have fin : ∀ u w',Below w.heap.size w w'→Dn (cxOf B ρ (hD m.length ix H N listed) w') (V i) u→PIb B w0 gh m ix S H V N g ρ (listed.setIfInBounds (ix i) true) (a.put o.dst u) w'∧Keeps (cxOf B ρ (hD m.length ix H N listed) w) (cxOf B ρ (hD m.length ix H N (listed.setIfInBounds (ix i) true)) w')∧Below w.heap.size w w':=
  fun u w' hb hd=>⟨PIb.fin hp hix hinj hsize hI0 hi ho' hN hb hd,by rw [hDn]; exact .grow hb,hb⟩
 refine wpOp_step hoa fun K hK=>?_
 rw [hwt]
 simp only [if_true]
 exact hs o ho' ρ (setFf (hD m.length ix H N listed) kn) w a (setF_HS kn hHS) (fun h=>by cases h) R1 (fun x hx=>Dn.keep K1 _ _ (hread x hx)) K Q fun u w' ρ' R' KK hbl hd=>hK _ _ (fin u w' hbl (Dn.keep (Keeps.back KK (setFf_here kn _) (setFf_ext kn _) (setFf_ext2 kn _)) _ _ hd))
def FsE.no (f : FsE) : FsE:={ f with ol:=List.replicate f.ol.length .any }
def StD.f (d : StD) : FsE:=⟨0,d.i,d.off,d.ls,false⟩
def TPk (P : Program) (B : Nat) (w0 : World) (l : List Oper) (fs : List FsE) : Nat→List Oper→List TV→List LB→List StD→(List TV→List LB→List StD→Prop)→Prop
 | _,[],s,h,pd,K=>K s h pd
 | p,o :: rest,s,h,pd,K=>
  (∃ tv new b,Wants l s o b∧(b = true→TStep P B w0 h s o tv new)∧(b = false→tv = .v undef∧new = none)∧TPk P B w0 l fs (p + 1) rest (putO s o.dst tv) (addO h new) pd K) ∨
  (∃ tv kn,Wants l s o true∧(∀ f ∈ kn,f ∈ fs∧f.old = true∧∃ fu,reachB l p fu f.q = true)∧TStep P B w0 (setF h kn) s o tv none∧TPk P B w0 l fs (p + 1) rest (putO s o.dst tv) h pd K) ∨
  (∃ d : StD,d.Ok P s h o∧(∃ f ∈ fs,f.q = p∧f.i = d.i∧f.off = d.off∧f.ol.length = d.ls.length)∧TPk P B w0 l fs (p + 1) rest s h (pd ++ [d]) K)
theorem TPk.st {fs : List FsE} {p : Nat} {o : Oper} {rest : List Oper} {s : List TV} {h : List LB} {pd : List StD} {K : List TV→List LB→List StD→Prop} {tv : TV} {new : Option LB} (hg : o.guard = none) (hs : TStep P B w0 h s o tv new) (hr : TPk P B w0 l fs (p + 1) rest (putO s o.dst tv) (addO h new) pd K) : TPk P B w0 l fs p (o :: rest) s h pd K:=
 .inl ⟨tv,new,true,by simp [Wants,hg],fun _=>hs,fun h=>(by cases h),hr⟩
theorem TPk.st_g {fs : List FsE} {p : Nat} {o : Oper} {rest : List Oper} {s : List TV} {h : List LB} {pd : List StD} {K : List TV→List LB→List StD→Prop} {tv : TV} {new : Option LB} {og : Oper} {j d : Nat} {b : Bool} (hg : o.guard = some (j,b)) (ho : l[j]? = some og) (hd : og.dst = some d) (hdl : d < s.length) (hb : tev s (.tmp d) = .v (.bool b)) (hs : TStep P B w0 h s o tv new) (hr : TPk P B w0 l fs (p + 1) rest (putO s o.dst tv) (addO h new) pd K) : TPk P B w0 l fs p (o :: rest) s h pd K:=
 .inl ⟨tv,new,true,by simp only [Wants,hg]; exact ⟨og,d,_,ho,hd,hdl,hb,by simp [isB]⟩,fun _=>hs,fun h=>(by cases h),hr⟩
theorem TPk.sk_g {fs : List FsE} {p : Nat} {o : Oper} {rest : List Oper} {s : List TV} {h : List LB} {pd : List StD} {K : List TV→List LB→List StD→Prop} {og : Oper} {j d : Nat} {x : Value} {b' : Bool} (hg : o.guard = some (j,b')) (ho : l[j]? = some og) (hd : og.dst = some d) (hdl : d < s.length) (hb : tev s (.tmp d) = .v x) (hne : isB x b' = false) (hr : TPk P B w0 l fs (p + 1) rest (putO s o.dst (.v undef)) h pd K) : TPk P B w0 l fs p (o :: rest) s h pd K:=
 .inl ⟨.v undef,none,false,by simp only [Wants,hg]; exact ⟨og,d,x,ho,hd,hdl,hb,hne.symm⟩,fun h=>(by cases h),fun _=>⟨rfl,rfl⟩,hr⟩
theorem runs_k {fs : List FsE} : ∀ (rest : List Oper) (p : Nat) (s : List TV) (h : List LB) (pd : List StD) (K : List TV→List LB→List StD→Prop),TPk P B w0 l fs p rest s h pd K →
  ∃ (S : Nat→List TV) (H : Nat→List LB) (V : Nat→TV) (N : Nat→Option LB) (b st sto : Nat→Bool) (D : Nat→StD) (KN : Nat→List FsE) (pd' : List StD),S 0 = s∧H 0 = h∧K (S rest.length) (H rest.length) (pd ++ pd')∧(∀ d ∈ pd',∃ i,i < rest.length∧st i = true∧sto i = true∧D i = d) ∧
   (∀ i o,i < rest.length→rest[i]? = some o→(Wants l (S i) o (b i)∧(b i = true→st i = false→TStep P B w0 (H i) (S i) o (V i) (N i))∧(b i = false→V i = .v undef∧N i = none)∧S (i + 1) = putO (S i) o.dst (V i)∧H (i + 1) = addO (H i) (N i)) ∧
    (st i = true→N i = none∧((sto i = true∧(D i).Ok P (S i) (H i) o∧∃ f ∈ fs,f.q = p + i∧f.i = (D i).i∧f.off = (D i).off∧f.ol.length = (D i).ls.length) ∨
     (sto i = false∧Wants l (S i) o true∧TStep P B w0 (setF (H i) (KN i)) (S i) o (V i) none∧∀ f ∈ KN i,f ∈ fs∧f.old = true∧∃ fu,reachB l (p + i) fu f.q = true))))
 | [],p,s,h,pd,K,hp=>⟨fun _=>s,fun _=>h,fun _=>.any,fun _=>none,fun _=>true,fun _=>false,fun _=>false,fun _=>⟨0,.tmp 0,.tmp 0,0,0,0,[],[],⟨0,false,0,[],0,0,0,none⟩⟩,fun _=>[],[],rfl,rfl,by rw [List.append_nil]; exact hp,fun d hd=>(by simp at hd),fun i o hi=>(by simp at hi)⟩
 | o :: rest,p,s,h,pd,K,hp=>by
  rcases hp with ⟨tv,new,b0,h1,h2,h3,h4⟩ | ⟨tv,kn,h1,h2,h3,h4⟩ | ⟨d,h1,h2,h4⟩
  ·obtain ⟨S,H,V,N,b,st,sto,D,KN,pd',e1,e2,e3,e5,e8⟩:=runs_k rest _ _ _ pd K h4
   refine ⟨fun i=>match i with | 0=>s | i + 1=>S i,fun i=>match i with | 0=>h | i + 1=>H i,fun i=>match i with | 0=>tv | i + 1=>V i,fun i=>match i with | 0=>new | i + 1=>N i,fun i=>match i with | 0=>b0 | i + 1=>b i,fun i=>match i with | 0=>false | i + 1=>st i,fun i=>match i with | 0=>false | i + 1=>sto i,fun i=>match i with | 0=>D 0 | i + 1=>D i,fun i=>match i with | 0=>[] | i + 1=>KN i,pd',rfl,rfl,e3,fun d hd=>?_,fun i o' hi ho=>?_⟩
   ·obtain ⟨i,h5,h6⟩:=e5 d hd
    exact ⟨i + 1,by simp; omega,h6⟩
   ·cases i with
    | zero=>
     simp only [List.getElem?_cons_zero,Option.some.injEq] at ho
     subst ho
     exact ⟨⟨h1,fun hb _=>h2 hb,h3,e1,e2⟩,fun h=>(by cases h)⟩
    | succ i=>
     simp only [List.getElem?_cons_succ] at ho
     have:=e8 i o' (by simpa using hi) ho
     rw [show p + (i + 1) = p + 1 + i by omega]
     exact this
  ·obtain ⟨S,H,V,N,b,st,sto,D,KN,pd',e1,e2,e3,e5,e8⟩:=runs_k rest _ _ _ pd K h4
   refine ⟨fun i=>match i with | 0=>s | i + 1=>S i,fun i=>match i with | 0=>h | i + 1=>H i,fun i=>match i with | 0=>tv | i + 1=>V i,fun i=>match i with | 0=>none | i + 1=>N i,fun i=>match i with | 0=>true | i + 1=>b i,fun i=>match i with | 0=>true | i + 1=>st i,fun i=>match i with | 0=>false | i + 1=>sto i,fun i=>match i with | 0=>D 0 | i + 1=>D i,fun i=>match i with | 0=>kn | i + 1=>KN i,pd',rfl,rfl,e3,fun d hd=>?_,fun i o' hi ho=>?_⟩
   ·obtain ⟨i,h5,h6⟩:=e5 d hd
    exact ⟨i + 1,by simp; omega,h6⟩
   ·cases i with
    | zero=>
     simp only [List.getElem?_cons_zero,Option.some.injEq] at ho
     subst ho
     exact ⟨⟨h1,fun _ h=>(by cases h),fun h=>(by cases h),e1,e2⟩,fun _=>⟨rfl,.inr ⟨rfl,h1,h3,h2⟩⟩⟩
    | succ i=>
     simp only [List.getElem?_cons_succ] at ho
     have:=e8 i o' (by simpa using hi) ho
     rw [show p + (i + 1) = p + 1 + i by omega]
     exact this
  ·obtain ⟨S,H,V,N,b,st,sto,D,KN,pd',e1,e2,e3,e5,e8⟩:=runs_k rest _ _ _ (pd ++ [d]) K h4
   refine ⟨fun i=>match i with | 0=>s | i + 1=>S i,fun i=>match i with | 0=>h | i + 1=>H i,fun i=>match i with | 0=>.any | i + 1=>V i,fun i=>match i with | 0=>none | i + 1=>N i,fun i=>match i with | 0=>true | i + 1=>b i,fun i=>match i with | 0=>true | i + 1=>st i,fun i=>match i with | 0=>true | i + 1=>sto i,fun i=>match i with | 0=>d | i + 1=>D i,fun i=>match i with | 0=>[] | i + 1=>KN i,d :: pd',rfl,rfl,by rw [List.append_assoc] at e3; exact e3,fun e he=>?_,fun i o' hi ho=>?_⟩
   ·rcases List.mem_cons.1 he with rfl | he
    ·exact ⟨0,by simp,rfl,rfl,rfl⟩
    ·obtain ⟨i,h5,h6⟩:=e5 e he
     exact ⟨i + 1,by simp; omega,h6⟩
   ·cases i with
    | zero=>
     simp only [List.getElem?_cons_zero,Option.some.injEq] at ho
     subst ho
     exact ⟨⟨by simp [Wants,h1.g],fun _ h=>(by cases h),fun h=>(by cases h),by rw [h1.dst]; exact e1,e2⟩,fun _=>⟨rfl,.inl ⟨rfl,h1,h2⟩⟩⟩
    | succ i=>
     simp only [List.getElem?_cons_succ] at ho
     have:=e8 i o' (by simpa using hi) ho
     rw [show p + (i + 1) = p + 1 + i by omega]
     exact this
theorem Stored.init {ρ : Nat→Value} {h : Nat→LB} {w : World} (R : Rel B w0 ρ h w) (f : FsE) {t : TypeId} {cs : List TV} (hi : h f.i = .cells t cs) (hle : f.off + f.ol.length ≤ cs.length) (ho : (cs.drop f.off).take f.ol.length = f.ol) : Stored B ρ h w f.d:=by
 obtain ⟨g,vs,q1,q2,q3,q4⟩:=R.blk f.i t cs hi
 have hl:=q4.len
 have h1:=DnL.take f.ol.length (DnL.drop f.off q4)
 rw [ho] at h1
 refine ⟨by show (h f.i).here; rw [hi]; trivial,g,(vs.drop f.off).take f.ol.length,q1,q2.lt,h1,fun j u hj=>?_⟩
 rw [q2.cell]
 have hj1:=(List.getElem?_eq_some_iff.1 hj).1
 rw [List.length_take] at hj1
 rw [List.getElem?_take_of_lt (by omega),List.getElem?_drop] at hj
 simpa [FsE.d] using hj
theorem Stored.init_no {ρ : Nat→Value} {h : Nat→LB} {w : World} (R : Rel B w0 ρ h w) (f : FsE) {t : TypeId} {cs : List TV} (hi : h f.i = .cells t cs) (hle : f.off + f.ol.length ≤ cs.length) : Stored B ρ h w f.no.d:=by
 obtain ⟨g,vs,q1,q2,q3,q4⟩:=R.blk f.i t cs hi
 have hl:=q4.len
 refine ⟨by show (h f.i).here; rw [hi]; trivial,g,(vs.drop f.off).take f.ol.length,q1,q2.lt,DnL.anys _ _ (by simp; omega),fun j u hj=>?_⟩
 rw [q2.cell]
 have hj1:=(List.getElem?_eq_some_iff.1 hj).1
 rw [List.length_take] at hj1
 rw [List.getElem?_take_of_lt (by omega),List.getElem?_drop] at hj
 simpa [FsE.no,FsE.d] using hj
theorem TA.know {Q : Exit→St→Prop} {σ : St} (n : Nat) (hm : P.follows .mixedOrders = true)
  (hB : (backB l.toArray && decide (n ≤ l.length) && parB l (l.take n) ixI && (decide (n = l.length) || (decide (n < l.length) && Region.sinkB .any l.toArray n && Region.chainB .any l.toArray n && Region.seqB .any l.toArray (l.length - n) n (headOf n l.length)))) = true)
  (fs : List FsE) (hdis : disAll fs = true) (hin : ∀ f ∈ fs,∃ t cs,hf σ.h f.i = .cells t cs∧f.off + f.ol.length ≤ cs.length∧(f.old = true→(cs.drop f.off).take f.ol.length = f.ol))
  (h : TPk P B w0 l fs 0 (l.take n) σ.s (setF σ.h (fs.map FsE.no)) [] fun s h pd=>TL P B w0 gh l.toArray (l.drop n) ⟨s,setF h (pd.map StD.f),σ.g⟩ Q) : TA P B w0 gh l.toArray σ Q:=fun ρ a w hr=>by
 simp only [Bool.and_eq_true,Bool.or_eq_true,decide_eq_true_eq] at hB
 obtain ⟨⟨⟨hb,hn⟩,hp⟩,htail⟩:=hB
 obtain ⟨m,hmm⟩ : ∃ m,l.take n = m:=⟨_,rfl⟩
 have hlen : m.length = n:=by rw [← hmm]; simp [hn]
 rw [hmm] at h hp
 subst hlen
 obtain ⟨S,H,V,N,b,st,sto,D,KN,pd,e1,e2,e3,e6,e4⟩:=runs_k m 0 σ.s _ [] _ h
 rw [List.nil_append] at e3
 have R : Runs P B w0 l m S H V N b st:=⟨fun i o h1 h2=>(e4 i o h1 h2).1⟩
 have hix : ∀ p o,m[p]? = some o→l[ixI p]? = some o:=fun p o hp=>by
  have : p < m.length:=(List.getElem?_eq_some_iff.1 hp).1
  rw [← hmm,List.getElem?_take_of_lt this] at hp
  exact hp
 have hn' : m.length ≤ l.toArray.size:=by simpa using hn
 show wpAny P .any l.toArray (liftQ B w0 gh Q) l.toArray.size (Array.replicate l.toArray.size false) a w.drew
 have inv0 : HeadInv .any l.toArray m.length (Array.replicate l.toArray.size false):=
  ⟨by simp,fun j oj _ hl=>(by rw [getD_replicate_false] at hl; cases hl),fun t _ ht=>getD_in (by simpa using ht) (getD_replicate_false _ _)⟩
 have hno : ∀ listed,HeadInv .any l.toArray m.length listed→(∃ i,i < m.length∧listed.getD i true = false)→∀ t,m.length ≤ t→t ∉ Region.ready .any l.toArray listed:=by
  rcases htail with hnl | ⟨⟨⟨hlt,hs⟩,hc⟩,hq⟩
  ·intro listed _ _ t ht hr
   obtain ⟨_,o,ho,_⟩:=mem_ready.1 hr
   have:=(Array.getElem?_eq_some_iff.1 ho).1
   simp at this
   omega
  ·intro listed inv ⟨i,hi,hl⟩ t ht
   exact tail_waits hs hc (by simpa using hlt) inv (m.length - i) i rfl hi hl t ht
 have key:=wpAny_inv (P:=P) (ops:=l.toArray) (Q:=liftQ B w0 gh Q) (n:=m.length) hb hn' hno (fun listed a w=>∃ ρ,PIb B w0 gh m ixI S H V N σ.g ρ listed a w∧(∀ i,i < m.length→st i = true→sto i = true→listed.getD i false = true→Stored B ρ (hD m.length ixI H N listed) w (D i))∧∀ f ∈ fs,f.old = true→listed.getD f.q false = false→Stored B ρ (hD m.length ixI H N listed) w f.d)
  (fun listed a w i inv hI hi hl hd=>by
   obtain ⟨ρ,hI,hS,hO⟩:=hI
   have hsize : listed.size = l.length:=by rw [inv.size]; simp
   have hset : ∀ j,j ≠ i→(listed.setIfInBounds i true).getD j false = listed.getD j false:=fun j hj=>getD_set_ne false (fun e=>hj e.symm)
   have hself : (listed.setIfInBounds i true).getD i false = true:=getD_set_self (by omega)
   have hl' : listed.getD i false = false:=by
    have h2 : i < listed.size:=by omega
    simp only [Array.getD,h2,dite_true] at hl ⊢
    exact hl
   cases hsi : st i with
   | false=>
    refine wpOp_mono (fun a' w' ⟨ρ',h1,h2,h3⟩=>⟨ρ',h1,fun j hj hsj htj hlj=>?_,fun f hf ho hlf=>?_⟩) (region_par_core' R hp hix (fun p q _ _ h=>h) hsize hI hi hl hsi hd)
    ·have hji : j ≠ i:=by rintro rfl; rw [hsi] at hsj; cases hsj
     have hlj' : (listed.setIfInBounds i true).getD j false = true:=hlj
     exact (hS j hj hsj htj (by rw [← hset j hji]; exact hlj')).keep h2 fun g _ hg=>⟨h3.block g hg,Nat.lt_of_lt_of_le hg h3.size⟩
    ·have hlf' : (listed.setIfInBounds i true).getD f.q false = false:=hlf
     have hji : f.q ≠ i:=by intro e; rw [e,hself] at hlf'; cases hlf'
     exact (hO f hf ho (by rw [← hset f.q hji]; exact hlf')).keep h2 fun g _ hg=>⟨h3.block g hg,Nat.lt_of_lt_of_le hg h3.size⟩
   | true=>
    obtain ⟨o,ho⟩ : ∃ o,m[i]? = some o:=⟨m[i]'hi,List.getElem?_eq_getElem _⟩
    obtain ⟨hNi,hcase⟩:=(e4 i o hi ho).2 hsi
    have hDn : hD m.length ixI H N (listed.setIfInBounds i true) = hD m.length ixI H N listed:=hD_none (ix:=ixI) (fun p q _ _ h=>h) hi hNi
    rcases hcase with ⟨hti,hok,fi,hfi,z1,z2,z3,z4⟩ | ⟨hti,hg,hts,hkn⟩
    ·have hR:=hI.1
     rw [Nat.zero_add] at z1
     have hok' : ∀ o,m[i]? = some o→(D i).Ok P (S i) (H i) o∧N i = none:=fun o' ho'=>by rw [ho] at ho'; injection ho' with ho'; subst ho'; exact ⟨hok,hNi⟩
     refine wpOp_mono (fun a' w' ⟨h1,h2,h3,h4,gg,h5,h6,h7⟩=>?_) (store_core2 R hp hix (fun p q _ _ h=>h) hsize hI hi hok' hd)
     -- what lies elsewhere
     have far : ∀ f ∈ fs,f.q ≠ i→∀ d : StD,d.i = f.i→d.off = f.off→d.ls.length = f.ol.length→Stored B ρ (hD m.length ixI H N listed) w d→Stored B ρ (hD m.length ixI H N (listed.setIfInBounds i true)) w' d:=fun f hf hq d y1 y2 y3 hs=>by
      refine hs.keep2 h3 fun g hg1 hg=>⟨fun k hk=>?_,Nat.lt_of_lt_of_le hg h6.size⟩
      by_cases hgg : g = gg
      ·subst hgg
       have hii : d.i = (D i).i:=by
        by_cases hne : d.i = (D i).i
        ·exact hne
        ·exact (hR.sep _ _ _ hs.1 h4 (by rw [hg1]; rfl) (by rw [h5]; rfl) |> fun e=>(hne e).elim)
       refine h7 _ ?_
       rcases disAll_spec hdis f hf fi hfi (by omega) with c | c | c
       ·exact (c (by rw [← y1,hii,z2])).elim
       ·left; omega
       ·right; omega
      ·have:=h6.block g hg (fun e=>hgg (Option.some.inj e))
       simp only [World.cell?,this]
     refine ⟨ρ,h1,fun j hj hsj htj hlj=>?_,fun f hf hof hlf=>?_⟩
     ·have hlj' : (listed.setIfInBounds i true).getD j false = true:=hlj
      by_cases hji : j = i
      ·subst hji
       show Stored B ρ (hD m.length ixI H N (listed.setIfInBounds j true)) w' (D j)
       rw [hDn]; exact h2
      ·obtain ⟨oj,hoj⟩ : ∃ o,m[j]? = some o:=⟨m[j]'hj,List.getElem?_eq_getElem _⟩
       obtain ⟨_,hcj⟩:=(e4 j oj hj hoj).2 hsj
       rcases hcj with ⟨_,_,fj,hfj,y1,y2,y3,y4⟩ | ⟨htj',_⟩
       ·exact far fj hfj (by omega) (D j) y2.symm y3.symm y4.symm (hS j hj hsj htj (by rw [← hset j hji]; exact hlj'))
       ·rw [htj] at htj'; cases htj'
     ·have hlf' : (listed.setIfInBounds i true).getD f.q false = false:=hlf
      have hji : f.q ≠ i:=by intro e; rw [e,hself] at hlf'; cases hlf'
      exact far f hf hji f.d rfl rfl rfl (hO f hf hof (by rw [← hset f.q hji]; exact hlf'))
    ·have hkn' : ∀ f ∈ KN i,Stored B ρ (hD m.length ixI H N listed) w f.d:=fun f hf=>by
      obtain ⟨k1,k2,fu,k3⟩:=hkn f hf
      rw [Nat.zero_add] at k3
      refine hO f k1 k2 ?_
      cases hq : listed.getD f.q false with
      | false=>rfl
      | true=>
       have:=reachB_spec inv _ _ k3 hq
       rw [hl'] at this
       cases this
     refine wpOp_mono (fun a' w' ⟨h1,h2,h3⟩=>⟨ρ,h1,fun j hj hsj htj hlj=>?_,fun f hf hof hlf=>?_⟩) (know_core R hp hix (fun p q _ _ h=>h) hsize hI hi hd (KN i) hNi (fun o' ho'=>by rw [ho] at ho'; injection ho' with ho'; subst ho'; exact hg) (fun o' ho'=>by rw [ho] at ho'; injection ho' with ho'; subst ho'; exact hts) hkn')
     ·have hji : j ≠ i:=by rintro rfl; rw [hti] at htj; cases htj
      have hlj' : (listed.setIfInBounds i true).getD j false = true:=hlj
      exact (hS j hj hsj htj (by rw [← hset j hji]; exact hlj')).keep h2 fun g _ hg=>⟨h3.block g hg,Nat.lt_of_lt_of_le hg h3.size⟩
     ·have hlf' : (listed.setIfInBounds i true).getD f.q false = false:=hlf
      have hji : f.q ≠ i:=by intro e; rw [e,hself] at hlf'; cases hlf'
      exact (hO f hf hof (by rw [← hset f.q hji]; exact hlf')).keep h2 fun g _ hg=>⟨h3.block g hg,Nat.lt_of_lt_of_le hg h3.size⟩)
  (fun listed a' w' inv hall hI=>by
   have hlist:=headOf_eq hn' inv hall
   subst hlist
   have hl : ∀ i,i < m.length→(headOf m.length l.toArray.size).getD i false = true:=fun i hi=>by
    have h1:=hall i hi
    have h2 : i < (headOf m.length l.toArray.size).size:=by rw [inv.size]; omega
    simp only [Array.getD,h2,dite_true] at h1 ⊢
    exact h1
   obtain ⟨ρ',⟨hR,hgh,hsz,hdf,hpt⟩,hSt,_⟩:=hI
   have hDf : hD m.length ixI H N (headOf m.length l.toArray.size) = hf (H m.length):=by
    funext k
    unfold hD
    split
    ·rename_i h0
     exact (R.pre' (Nat.zero_le m.length) (Nat.le_refl _) h0).symm
    ·rename_i h0
     split
     ·rfl
     ·rename_i h1
      rcases Nat.lt_or_ge k (H m.length).length with h2 | h2
      ·exfalso
       -- the step that made k
       have : ∀ d,d ≤ m.length→k < (H d).length→∃ i,i < m.length∧(headOf m.length l.toArray.size).getD i false = true∧(N i).isSome = true∧(H i).length = k:=by
        intro d
        induction d with
        | zero=>intro _ h3; exact absurd h3 h0
        | succ d ih=>
         intro hd h3
         rcases Nat.lt_or_ge k (H d).length with h4 | h4
         ·exact ih (by omega) h4
         ·obtain ⟨_,_,_,_,h5⟩:=R.step d (m[d]'(by omega)) (by omega) (List.getElem?_eq_getElem _)
          cases hN : N d with
          | none=>rw [h5,hN] at h3; simp only [addO] at h3; omega
          | some x=>
           have:=(R.succ (by omega) hN).1
           exact ⟨d,by omega,hl d (by omega),by rw [hN]; rfl,by omega⟩
       exact h1 (this m.length (Nat.le_refl _) h2)
      ·exact (hf_ge h2).symm
   rw [hDf] at hR hgh hpt hSt
   have hRS : RelS B w0 gh ρ' ⟨S m.length,H m.length,σ.g⟩ a' w':=by
    refine ⟨?_,hgh,hR,hdf⟩
    refine dnl_of_point _ _ (by have:=R.slen m.length (Nat.le_refl _); simp [hsz,this]) fun t x u hx hu=>?_
    have hu' : a'.tmps[t]? = some u:=by rw [← Array.getElem?_toList]; exact hu
    obtain ⟨q1,q2⟩:=hpt t u hu'
    have htl : t < (S 0).length:=by
     have h1:=(List.getElem?_eq_some_iff.1 hx).1
     have h2:=R.slen m.length (Nat.le_refl _)
     simp only at h1
     omega
    rcases R.slot htl m.length (Nat.le_refl _) with ⟨j,oj,h1,h2,h3,h4⟩ | ⟨h1,h2⟩
    ·have : x = V j:=by rw [h4] at hx; exact (Option.some.inj hx).symm
     subst this
     exact q1 j oj h1 h2 h3 (hl j h1)
    ·have : x = (S 0).getD t .any:=by
      rw [h2] at hx
      simp [List.getD,hx]
     subst this
     exact q2 fun j oj hj hoj hd=>absurd hd (h1 j oj hj hoj)
   have hok : ∀ f ∈ pd.map StD.f,Stored B ρ' (hf (H m.length)) w' f.d:=fun f hf=>by
    obtain ⟨d,hd,rfl⟩:=List.mem_map.1 hf
    obtain ⟨i,hi,hsi,hti,rfl⟩:=e6 d hd
    exact hSt i hi hsi hti (hl i hi)
   have hRS : RelS B w0 gh ρ' ⟨S m.length,setF (H m.length) (pd.map StD.f),σ.g⟩ a' w':=by
    obtain ⟨R1,K1⟩:=Rel.knowF (pd.map StD.f) hR hok
    exact ⟨by simp only [setF_hf]; exact DnL.keep K1 _ _ hRS.slots,by simp only [setF_hf]; exact DnL.keep K1 _ _ hRS.ghost,by simp only [setF_hf]; exact R1,hRS.defers⟩
   have hT:=e3 ρ' a' w' hRS
   rcases htail with hnl | ⟨⟨⟨hlt,hs⟩,hc⟩,hq⟩
   ·have hdr : l.drop m.length = []:=by rw [hnl]; simp
    rw [hdr] at hT
    have hrd : Region.ready .any l.toArray (headOf m.length l.toArray.size) = []:=by
     rw [List.eq_nil_iff_forall_not_mem]
     intro t hr'
     obtain ⟨hl',o,ho,_⟩:=mem_ready.1 hr'
     have:=(Array.getElem?_eq_some_iff.1 ho).1
     have hlt : t < l.length:=by simpa using this
     have h5:=hl t (by omega)
     have h6 : t < (headOf m.length l.toArray.size).size:=by rw [inv.size]; exact this
     simp only [Array.getD,h6,dite_true] at hl' h5
     rw [hl'] at h5
     cases h5
    rw [show l.toArray.size - m.length = 0 by simp; omega]
    exact ⟨hrd,hT⟩
   ·have:=wpAny_of_seq (P:=P) (ops:=l.toArray) (md:=.any) (Q':=liftQ B w0 gh Q) (l.drop m.length) m.length (headOf m.length l.length) a' w' (fun j=>by simp [List.getElem?_drop]) (by rw [List.length_drop]; exact hq) hT
    simpa using this)
  (leftOf m.length (Array.replicate l.toArray.size false)) _ a w.drew inv0 rfl
  (by
   have hD0 : hD m.length ixI H N (Array.replicate l.toArray.size false) = hf (setF σ.h (fs.map FsE.no)):=by
    funext k
    unfold hD
    rw [e2]
    split
    ·rfl
    ·rename_i h0
     rw [if_neg,hf_ge (by omega)]
     rintro ⟨i,_,h1,_⟩
     rw [getD_replicate_false] at h1
     cases h1
   have hS0 : ∀ f ∈ fs.map FsE.no,Stored B ρ (hf σ.h) w f.d:=fun f hf=>by
    obtain ⟨f,hf1,rfl⟩:=List.mem_map.1 hf
    obtain ⟨t,cs,h1,h2,_⟩:=hin f hf1
    exact Stored.init_no hr.rel f h1 h2
   obtain ⟨R1,K1⟩:=Rel.knowF (fs.map FsE.no) hr.rel hS0
   rw [← setF_hf] at R1 K1
   have hb0 : Below w.heap.size w w.drew:=(Below.refl _ _).drew
   have KK : Keeps (cxOf B ρ (hf (setF σ.h (fs.map FsE.no))) w) (cxOf B ρ (hf (setF σ.h (fs.map FsE.no))) w.drew):=.grow hb0
   refine ⟨ρ,?_,fun i _ _ _ h1=>(by rw [getD_replicate_false] at h1; cases h1),fun f hf ho _=>?_⟩
   ·unfold PIb
    rw [hD0,e1]
    refine ⟨R1.grow hb0,DnL.keep KK _ _ (DnL.keep K1 _ _ hr.ghost),by have:=hr.slots.len; simpa using this,hr.defers,fun t u hu=>⟨fun i o hi ho hd hl=>(by rw [getD_replicate_false] at hl; cases hl),fun _=>?_⟩⟩
    have hsl:=tev_dn hr.slots (.tmp t)
    have h2 : a.eval (.tmp t) = u:=by simp [Act.eval,Array.getD_eq_getD_getElem?,hu]
    rw [h2] at hsl
    exact Dn.keep KK _ _ (Dn.keep K1 _ _ hsl)
   ·obtain ⟨t,cs,h1,h2,h3⟩:=hin f hf
    show Stored B ρ (hD m.length ixI H N (Array.replicate l.toArray.size false)) w.drew f.d
    rw [hD0]
    exact ((Stored.init hr.rel f h1 h2 (h3 ho)).cx K1).keep KK fun g _ hg=>⟨hb0.block g hg,Nat.lt_of_lt_of_le hg hb0.size⟩)
 have hleft : leftOf m.length (Array.replicate l.toArray.size false) = m.length:=by
  unfold leftOf
  rw [List.filter_eq_self.2]
  ·simp
  ·intro i hi
   rw [List.mem_range] at hi
   have : i < l.length:=by omega
   simp [this]
 rw [hleft,show m.length + (l.toArray.size - m.length) = l.toArray.size by omega] at key
 exact key
end
end Go.Proofs.YtpgfhkbnngjegaaGreatDoor
