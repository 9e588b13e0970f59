/- Nil slices as slices of nothing. No condition. -/
import Derived.Test.YtpgfhkbnngjegaaGreatDoorT12
namespace Go.Proofs.YtpgfhkbnngjegaaGreatDoor
open Go.RowKit
set_option linter.unusedVariables false
set_option linter.unusedSimpArgs false
structure StD where
 t : TypeId
 x : Operand
 y : Operand
 i : Nat
 off : Nat
 t0 : TypeId
 cs : List TV
 ls : List TV
 ti : TI
structure StD.Ok (P : Program) (s : List TV) (h : List LB) (o : Oper) (d : StD) : Prop where
 g : o.guard = none
 op : o.op = .store d.t d.x d.y
 dst : o.dst = none
 hx : tev s d.x = .ptr d.i d.off
 hi : hf h d.i = .cells d.t0 d.cs
 ht : tiOf P d.t = some d.ti
 hy : cellsT (tev s d.y) = some d.ls
 hl : d.ls.length = d.ti.n
 one : d.ls.all TV.one = true
 le : d.off + d.ls.length ≤ d.cs.length
 any : setsV d.cs d.off (List.replicate d.ls.length .any) = d.cs
def StD.lb (d : StD) : LB:=.cells d.t0 (setsV d.cs d.off d.ls)
def TPs (P : Program) (B : Nat) (w0 : World) (l : List Oper) : List Oper→List TV→List LB→List StD→(List TV→List LB→List StD→Prop)→Prop
 | [],s,h,pd,K=>K s h pd
 | o :: rest,s,h,pd,K=>
  (∃ tv new b,Wants l s o b∧(b = true→TStep P B w0 h s o tv new)∧(b = false→tv = .v undef∧new = none)∧TPs P B w0 l rest (putO s o.dst tv) (addO h new) pd K) ∨
  (∃ d : StD,d.Ok P s h o∧(pd.all fun e=>!(Nat.beq e.i d.i)) = true∧TPs P B w0 l rest s h (pd ++ [d]) K)
section
variable {P : Program} {B : Nat} {w0 : World} {gh : List Value} {l : List Oper} {o : Oper} {rest : List Oper} {s : List TV} {h : List LB} {pd : List StD} {K : List TV→List LB→List StD→Prop} {tv : TV} {new : Option LB}
theorem TPs.st (hg : o.guard = none) (hs : TStep P B w0 h s o tv new) (hr : ∀ s' h',s' = putO s o.dst tv→h' = addO h new→TPs P B w0 l rest s' h' pd K) : TPs P B w0 l (o :: rest) s h pd K:=
 .inl ⟨tv,new,true,by simp [Wants,hg],fun _=>hs,fun h=>(by cases h),hr _ _ rfl rfl⟩
theorem TPs.st_g {og : Oper} {j d : Nat} {b : Bool} (hg : o.guard = some (j,b)) (ho : l[j]? = some og) (hd : og.dst = some d) (hdl : d < s.length) (hb : tev s (.tmp d) = .v (.bool b)) (hs : TStep P B w0 h s o tv new) (hr : ∀ s' h',s' = putO s o.dst tv→h' = addO h new→TPs P B w0 l rest s' h' pd K) : TPs P B w0 l (o :: rest) s h pd K:=
 .inl ⟨tv,new,true,by simp only [Wants,hg]; exact ⟨og,d,_,ho,hd,hdl,hb,by simp [isB]⟩,fun _=>hs,fun h=>(by cases h),hr _ _ rfl rfl⟩
theorem TPs.sk_g {og : Oper} {j d : Nat} {x : Value} {b' : Bool} (hg : o.guard = some (j,b')) (ho : l[j]? = some og) (hd : og.dst = some d) (hdl : d < s.length) (hb : tev s (.tmp d) = .v x) (hne : isB x b' = false) (hr : ∀ s' h',s' = putO s o.dst (.v undef)→h' = addO h none→TPs P B w0 l rest s' h' pd K) : TPs P B w0 l (o :: rest) s h pd K:=
 .inl ⟨.v undef,none,false,by simp only [Wants,hg]; exact ⟨og,d,x,ho,hd,hdl,hb,hne.symm⟩,fun h=>(by cases h),fun _=>⟨rfl,rfl⟩,hr _ _ rfl rfl⟩
theorem TPs.sto {t t0 : TypeId} {x y : Operand} {i off : Nat} {cs ls : List TV} {ti : TI} (hg : o.guard = none) (hop : o.op = .store t x y) (hdst : o.dst = none) (hx : tev s x = .ptr i off) (hi : hf h i = .cells t0 cs) (ht : tiOf P t = some ti) (hy : cellsT (tev s y) = some ls) (hl : ls.length = ti.n) (h1 : ls.all TV.one = true) (hle : off + ls.length ≤ cs.length)
  (hany : setsV cs off (List.replicate ls.length .any) = cs) (hd : (pd.all fun e=>!(Nat.beq e.i i)) = true) (hr : TPs P B w0 l rest s h (pd ++ [⟨t,x,y,i,off,t0,cs,ls,ti⟩]) K) : TPs P B w0 l (o :: rest) s h pd K:=
 .inr ⟨⟨t,x,y,i,off,t0,cs,ls,ti⟩,⟨hg,hop,hdst,hx,hi,ht,hy,hl,h1,hle,hany⟩,hd,hr⟩
theorem runs_s : ∀ (rest : List Oper) (s : List TV) (h : List LB) (pd : List StD) (K : List TV→List LB→List StD→Prop),TPs P B w0 l rest s h pd K→pd.Pairwise (fun a b=>a.i ≠ b.i) →
  ∃ (S : Nat→List TV) (H : Nat→List LB) (V : Nat→TV) (N : Nat→Option LB) (b st : Nat→Bool) (D : Nat→StD) (pd' : List StD),S 0 = s∧H 0 = h∧K (S rest.length) (H rest.length) (pd ++ pd')∧(pd ++ pd').Pairwise (fun a b=>a.i ≠ b.i)∧(∀ d ∈ pd',∃ i,i < rest.length∧st i = true∧D i = d)∧(∀ i,i < rest.length→st i = true→D i ∈ pd') ∧
   (∀ i j,i < j→j < rest.length→st i = true→st j = true→(D i).i ≠ (D j).i) ∧
   (∀ i o,i < rest.length→rest[i]? = some o→(Wants l (S i) o (b i)∧(b i = true→st i = false→TStep P B w0 (H i) (S i) o (V i) (N i))∧(b i = false→V i = .v undef∧N i = none)∧S (i + 1) = putO (S i) o.dst (V i)∧H (i + 1) = addO (H i) (N i))∧(st i = true→(D i).Ok P (S i) (H i) o∧N i = none))
 | [],s,h,pd,K,hp,hn=>⟨fun _=>s,fun _=>h,fun _=>.any,fun _=>none,fun _=>true,fun _=>false,fun _=>⟨0,.tmp 0,.tmp 0,0,0,0,[],[],⟨0,false,0,[],0,0,0,none⟩⟩,[],rfl,rfl,by rw [List.append_nil]; exact hp,by rw [List.append_nil]; exact hn,fun d hd=>(by simp at hd),fun i hi=>(by simp at hi),fun i j _ hj=>(by simp at hj),fun i o hi=>(by simp at hi)⟩
 | o :: rest,s,h,pd,K,hp,hn=>by
  rcases hp with ⟨tv,new,b0,h1,h2,h3,h4⟩ | ⟨d,h1,h2,h4⟩
  ·obtain ⟨S,H,V,N,b,st,D,pd',e1,e2,e3,e4,e5,e6,e7,e8⟩:=runs_s rest _ _ pd K h4 hn
   refine ⟨fun i=>match i with | 0=>s | i + 1=>S i,fun i=>match i with | 0=>h | i + 1=>H i,fun i=>match i with | 0=>tv | i + 1=>V i,fun i=>match i with | 0=>new | i + 1=>N i,fun i=>match i with | 0=>b0 | i + 1=>b i,fun i=>match i with | 0=>false | i + 1=>st i,fun i=>match i with | 0=>D 0 | i + 1=>D i,pd',rfl,rfl,e3,e4,fun d hd=>?_,fun i hi hst=>?_,fun i j hij hj hsi hsj=>?_,fun i o' hi ho=>?_⟩
   ·obtain ⟨i,h5,h6,h7⟩:=e5 d hd
    exact ⟨i + 1,by simp; omega,h6,h7⟩
   ·cases i with
    | zero=>cases hst
    | succ i=>exact e6 i (by simpa using hi) hst
   ·cases i with
    | zero=>cases hsi
    | succ i=>
     cases j with
     | zero=>omega
     | succ j=>exact e7 i j (by omega) (by simpa using hj) hsi hsj
   ·cases i with
    | zero=>
     simp only [List.getElem?_cons_zero,Option.some.injEq] at ho
     subst ho
     exact ⟨⟨h1,fun hb _=>h2 hb,h3,e1,e2⟩,fun h=>(by cases h)⟩
    | succ i=>
     simp only [List.getElem?_cons_succ] at ho
     exact e8 i o' (by simpa using hi) ho
  ·have hn2 : (pd ++ [d]).Pairwise (fun a b=>a.i ≠ b.i):=by
    rw [List.pairwise_append]
    refine ⟨hn,by simp,fun a ha b hb=>?_⟩
    rw [List.mem_singleton.1 hb]
    have:=List.all_eq_true.1 h2 a ha
    intro e
    rw [e] at this
    simp at this
   obtain ⟨S,H,V,N,b,st,D,pd',e1,e2,e3,e4,e5,e6,e7,e8⟩:=runs_s rest _ _ (pd ++ [d]) K h4 hn2
   have hd' : ∀ e ∈ pd',d.i ≠ e.i:=fun e he=>(List.pairwise_append.1 e4).2.2 d (by simp) e he
   refine ⟨fun i=>match i with | 0=>s | i + 1=>S i,fun i=>match i with | 0=>h | i + 1=>H i,fun i=>match i with | 0=>.any | i + 1=>V i,fun i=>match i with | 0=>none | i + 1=>N i,fun i=>match i with | 0=>true | i + 1=>b i,fun i=>match i with | 0=>true | i + 1=>st i,fun i=>match i with | 0=>d | i + 1=>D i,d :: pd',rfl,rfl,by simpa using e3,by simpa using e4,fun e he=>?_,fun i hi hst=>?_,fun i j hij hj hsi hsj=>?_,fun i o' hi ho=>?_⟩
   ·rcases List.mem_cons.1 he with rfl | he
    ·exact ⟨0,by simp,rfl,rfl⟩
    ·obtain ⟨i,h5,h6,h7⟩:=e5 e he
     exact ⟨i + 1,by simp; omega,h6,h7⟩
   ·cases i with
    | zero=>simp
    | succ i=>exact List.mem_cons_of_mem _ (e6 i (by simpa using hi) hst)
   ·cases j with
    | zero=>omega
    | succ j=>
     cases i with
     | zero=>exact hd' _ (e6 j (by simpa using hj) hsj)
     | succ i=>exact e7 i j (by omega) (by simpa using hj) hsi hsj
   ·cases i with
    | zero=>
     simp only [List.getElem?_cons_zero,Option.some.injEq] at ho
     subst ho
     exact ⟨⟨by simp [Wants,h1.g],fun _ h=>(by cases h),fun h=>(by cases h),by rw [h1.dst]; exact e1,e2⟩,fun _=>⟨h1,rfl⟩⟩
    | succ i=>
     simp only [List.getElem?_cons_succ] at ho
     exact e8 i o' (by simpa using hi) ho
end
theorem setsV_at {α : Type} (cs : List α) (off : Nat) (l : List α) (h : off ≤ cs.length) {j : Nat} (hj : j < l.length) : (setsV cs off l)[off + j]? = l[j]?:=by
 unfold setsV
 have h1 : (cs.take off).length = off:=by simp; omega
 rw [List.getElem?_append_right (by omega),h1,Nat.add_sub_cancel_left,List.getElem?_append_left hj]
theorem updf_self {α : Type} (f : Nat→α) (n : Nat) (x : α) (h : f n = x) : updf f n x = f:=by
 funext k
 by_cases hk : k = n
 ·subst hk; rw [updf_same,h]
 ·rw [updf_ne _ _ hk]
def Stored (B : Nat) (ρ : Nat→Value) (h : Nat→LB) (w : World) (d : StD) : Prop:=
 (h d.i).here∧∃ g vs,ρ d.i = .pointer (some ⟨g,0,none⟩)∧g < w.heap.size∧DnL (cxOf B ρ h w) d.ls vs∧∀ j u,vs[j]? = some u→w.cell? ⟨g,d.off + j,none⟩ = some u
section
variable {P : Program} {B : Nat} {w0 : World} {gh : List Value} {l : List Oper}
theorem Stored.keep {ρ ρ' : Nat→Value} {h h' : Nat→LB} {w w' : World} {d : StD} (hs : Stored B ρ h w d) (KK : Keeps (cxOf B ρ h w) (cxOf B ρ' h' w')) (hb : ∀ g,ρ d.i = .pointer (some ⟨g,0,none⟩)→g < w.heap.size→w'.heap[g]? = w.heap[g]?∧g < w'.heap.size) : Stored B ρ' h' w' d:=by
 obtain ⟨h1,g,vs,h2,h3,h4,h5⟩:=hs
 obtain ⟨h6,h7⟩:=KK.loc d.i h1
 obtain ⟨h8,h9⟩:=hb g h2 h3
 exact ⟨h6,g,vs,h7.trans h2,h9,DnL.keep KK _ _ h4,fun j u hj=>cell_keep h8 (h5 j u hj)⟩
theorem Rel.know {ρ : Nat→Value} {h : Nat→LB} {w : World} {d : StD} (R : Rel B w0 ρ h w) (hs : Stored B ρ h w d) (hi : h d.i = .cells d.t0 d.cs) (hle : d.off + d.ls.length ≤ d.cs.length) : Rel B w0 ρ (updf h d.i d.lb) w∧Keeps (cxOf B ρ h w) (cxOf B ρ (updf h d.i d.lb) w):=by
 obtain ⟨h1,g,vs,h2,h3,h4,h5⟩:=hs
 have hg : blkOf (ρ d.i) = some g:=by rw [h2]; rfl
 obtain ⟨us,q1,q2,q3,q4⟩:=R.cells_at hi hg
 have hw : w.grownBy w (some g):=World.grownBy.refl _ _
 have KK : Keeps (cxOf B ρ h w) (cxOf B ρ (updf h d.i d.lb) w):=.put h1 trivial hg hw
 refine ⟨R.put h1 trivial hg q2 hw (fun t cs e=>?_) (fun e sz els e'=>by cases e'),KK⟩
 injection e with e1 e2
 subst e1 e2
 have hl1:=h4.len
 have hl2:=q3.len
 have hus : setsV us d.off vs = us:=by
  apply List.ext_getElem?
  intro k
  rcases Nat.lt_or_ge k d.off with hk | hk
  ·unfold setsV
   rw [List.getElem?_append_left (by simp; omega),List.getElem?_take_of_lt hk]
  ·rcases Nat.lt_or_ge k (d.off + vs.length) with hk2 | hk2
   ·obtain ⟨j,rfl⟩ : ∃ j,k = d.off + j:=⟨k - d.off,by omega⟩
    rw [setsV_at _ _ _ (by omega) (by omega),List.getElem?_eq_getElem (show j < vs.length by omega)]
    have h6:=h5 j _ (List.getElem?_eq_getElem (show j < vs.length by omega))
    rw [q1.cell] at h6
    simpa using h6.symm
   ·unfold setsV
    rw [List.getElem?_append_right (by simp; omega),List.getElem?_append_right (by simp; omega),List.getElem?_drop]
    congr 1
    simp
    omega
 refine ⟨g,us,h2,q1,q2,?_⟩
 rw [← hus]
 exact DnL.keep KK _ _ (setsV_dn d.off q3 h4)
theorem PIb.readT {m : List Oper} {ix : Nat→Nat} {S : Nat→List TV} {H : Nat→List LB} {V : Nat→TV} {N : Nat→Option LB} {b st : Nat→Bool} {g : List TV} {ρ : Nat→Value} (R : Runs P B w0 l m S H V N b st) (hp : parB l m ix = true) (hix : ∀ p o,m[p]? = some o→l[ix p]? = some o)
  {listed : Array Bool} {a : Act} {w : World} {i : Nat} (hI : PIb B w0 gh m ix S H V N g ρ listed a w) (hi : i < m.length)
  (hdeps : ∀ o,l.toArray[ix i]? = some o→∀ e ∈ o.after,Region.binds .any e = true→listed.getD e.on false = true) {o : Oper} (ho' : m[i]? = some o) : ∀ t : Nat,t ∈ readsOf l o→Dn (cxOf B ρ (hD m.length ix H N listed) w) (tev (S i) (.tmp t)) (a.tmps.getD t undef):=by
 obtain ⟨hR,hgh,hsz,hdf,hpt⟩:=hI
 have hol:=hix i o ho'
 have hoa : l.toArray[ix i]? = some o:=by simpa using hol
 intro t ht
 rcases Nat.lt_or_ge t (S 0).length with htl | htl
 ·have hta : t < a.tmps.size:=by omega
  have hu : a.tmps[t]? = some (a.tmps.getD t undef):=by simp [hta]
  obtain ⟨q1,q2⟩:=hpt t _ hu
  have hslot:=R.slot htl i (by omega)
  rcases hslot with ⟨j,oj,h1,h2,h3,h4⟩ | ⟨h1,h2⟩
  ·have h5 : tev (S i) (.tmp t) = V j:=by simp [tev,List.getD,h4]
   rw [h5]
   obtain ⟨e,he,h6,h7⟩:=((parB_spec hp hi (by omega) ho' h2 h3).1 ht).2
   exact q1 j oj (by omega) h2 h3 (by rw [← h6]; exact hdeps o hoa e he h7)
  ·have h5 : tev (S i) (.tmp t) = (S 0).getD t .any:=by simp [tev,List.getD,h2]
   rw [h5]
   refine q2 fun j oj hj hoj hd=>?_
   have h6:=(parB_spec hp hi hj ho' hoj hd).1 ht
   exact absurd hd (h1 j oj h6.1 hoj)
 ·have hSi:=R.slen i (by omega)
  have : tev (S i) (.tmp t) = .any:=by simp [tev,List.getD,List.getElem?_eq_none (show (S i).length ≤ t by omega)]
  rw [this]
  simp [Dn]
theorem PIb.read {m : List Oper} {ix : Nat→Nat} {S : Nat→List TV} {H : Nat→List LB} {V : Nat→TV} {N : Nat→Option LB} {b st : Nat→Bool} {g : List TV} {ρ : Nat→Value} (R : Runs P B w0 l m S H V N b st) (hp : parB l m ix = true) (hix : ∀ p o,m[p]? = some o→l[ix p]? = some o)
  {listed : Array Bool} {a : Act} {w : World} {i : Nat} (hI : PIb B w0 gh m ix S H V N g ρ listed a w) (hi : i < m.length)
  (hdeps : ∀ o,l.toArray[ix i]? = some o→∀ e ∈ o.after,Region.binds .any e = true→listed.getD e.on false = true) {o : Oper} (ho' : m[i]? = some o) (x : Operand) (hx : x ∈ o.op.operands.toList) : Dn (cxOf B ρ (hD m.length ix H N listed) w) (tev (S i) x) (a.eval x):=by
 have hread:=PIb.readT R hp hix hI hi hdeps ho'
 cases x with
 | tmp t=>exact hread t (by unfold readsOf; exact List.mem_append_left _ (mem_tmpsOf hx))
 | const v=>exact ofV_dn _ v
 | global g=>simp [tev,Act.eval,Dn]
 | func f=>
  simp only [tev,Act.eval,Dn]
  exact ⟨[],rfl,DnL.nil⟩
theorem PIb.wants {m : List Oper} {ix : Nat→Nat} {S : Nat→List TV} {H : Nat→List LB} {V : Nat→TV} {N : Nat→Option LB} {b st : Nat→Bool} {g : List TV} {ρ : Nat→Value} (R : Runs P B w0 l m S H V N b st) (hp : parB l m ix = true) (hix : ∀ p o,m[p]? = some o→l[ix p]? = some o)
  {listed : Array Bool} {a : Act} {w : World} {i : Nat} (hI : PIb B w0 gh m ix S H V N g ρ listed a w) (hi : i < m.length)
  (hdeps : ∀ o,l.toArray[ix i]? = some o→∀ e ∈ o.after,Region.binds .any e = true→listed.getD e.on false = true) {o : Oper} (ho' : m[i]? = some o) (hw : Wants l (S i) o true) : Region.wanted o (yielded l.toArray a.tmps) = true:=by
 have hread:=PIb.readT R hp hix hI hi hdeps ho'
 obtain ⟨hR,hgh,hsz,hdf,hpt⟩:=hI
 unfold Wants at hw
 unfold Region.wanted
 cases hg : o.guard with
 | none=>rfl
 | some jc=>
  obtain ⟨j,c⟩:=jc
  simp only [hg] at hw
  obtain ⟨og,d,x,h1,h2,h3,h4,h5⟩:=hw
  have h6:=hread d (by unfold readsOf; simp [hg,h1,h2])
  rw [h4] at h6
  simp only [Dn] at h6
  have hda : d < a.tmps.size:=by rw [hsz,← R.slen i (by omega)]; exact h3
  have h7 : a.tmps[d]? = some x:=by
   rw [Array.getD_eq_getD_getElem?,Array.getElem?_eq_getElem hda] at h6
   rw [Array.getElem?_eq_getElem hda]
   simpa using h6
  have hy : (yielded l.toArray a.tmps j == some c) = isB x c:=by
   cases x <;> simp [yielded,h1,h2,h7,isB]
  simp only [hy,← h5]
theorem hD_none {m : List Oper} {ix : Nat→Nat} {H : Nat→List LB} {N : Nat→Option LB} {listed : Array Bool} {i : Nat} (hinj : ∀ p q,p < m.length→q < m.length→ix p = ix q→p = q) (hi : i < m.length) (hN : N i = none) : hD m.length ix H N (listed.setIfInBounds (ix i) true) = hD m.length ix H N listed:=by
 have hset : ∀ j,j < m.length→j ≠ i→(listed.setIfInBounds (ix i) true).getD (ix j) false = listed.getD (ix j) false:=fun j hjn hj=>getD_set_ne false (fun e=>hj (hinj _ _ hi hjn e).symm)
 funext k
 unfold hD
 congr 2
 apply propext
 constructor
 ·rintro ⟨j,h1,h2,h3,h4⟩
  by_cases hji : j = i
  ·subst hji; rw [hN] at h3; cases h3
  ·exact ⟨j,h1,by rw [← hset j h1 hji]; exact h2,h3,h4⟩
 ·rintro ⟨j,h1,h2,h3,h4⟩
  by_cases hji : j = i
  ·subst hji; rw [hN] at h3; cases h3
  ·exact ⟨j,h1,by rw [hset j h1 hji]; exact h2,h3,h4⟩
theorem store_core {Q : Exit→Act→World→Prop} {m : List Oper} {ix : Nat→Nat} {S : Nat→List TV} {H : Nat→List LB} {V : Nat→TV} {N : Nat→Option LB} {b st : Nat→Bool} {g : List TV} {ρ : Nat→Value} (R : Runs P B w0 l m S H V N b st) (hp : parB l m ix = true) (hix : ∀ p o,m[p]? = some o→l[ix p]? = some o) (hinj : ∀ p q,p < m.length→q < m.length→ix p = ix q→p = q)
  {listed : Array Bool} {a : Act} {w : World} {i : Nat} (hsize : listed.size = l.length) (hI : PIb B w0 gh m ix S H V N g ρ listed a w) (hi : i < m.length) (hl : listed.getD (ix i) true = false) {d : StD} (hst : ∀ o,m[i]? = some o→d.Ok P (S i) (H i) o∧N i = none)
  (hdeps : ∀ o,l.toArray[ix i]? = some o→∀ e ∈ o.after,Region.binds .any e = true→listed.getD e.on false = true) :
  wpOp P l.toArray Q (ix i) (fun a' w'=>PIb B w0 gh m ix S H V N g ρ (listed.setIfInBounds (ix i) true) a' w'∧Stored B ρ (hD m.length ix H N listed) w' d∧Keeps (cxOf B ρ (hD m.length ix H N listed) w) (cxOf B ρ (hD m.length ix H N (listed.setIfInBounds (ix i) true)) w')∧(hD m.length ix H N listed d.i).here ∧
   ∃ gg,ρ d.i = .pointer (some ⟨gg,0,none⟩)∧w.grownBy w' (some gg)) a w:=by
 obtain ⟨o,ho'⟩ : ∃ o,m[i]? = some o:=⟨m[i]'hi,List.getElem?_eq_getElem _⟩
 obtain ⟨hok,hN⟩:=hst o ho'
 have hol:=hix i o ho'
 have hoa : l.toArray[ix i]? = some o:=by simpa using hol
 have hiS : ix i < listed.size:=by rw [hsize]; exact (List.getElem?_eq_some_iff.1 hol).1
 have hops : o.op.operands.toList = [d.x,d.y]:=by rw [hok.op]; rfl
 have e1:=PIb.read R hp hix hI hi hdeps ho' d.x (by rw [hops]; simp)
 have ey:=PIb.read R hp hix hI hi hdeps ho' d.y (by rw [hops]; simp)
 obtain ⟨hR,hgh,hsz,hdf,hpt⟩:=hI
 have hDn:=hD_none (H:=H) (listed:=listed) hinj hi hN
 rw [hok.hx] at e1
 simp only [Dn] at e1
 obtain ⟨p1,gg,p2,p3⟩:=e1
 have hHi : hD m.length ix H N listed d.i = .cells d.t0 d.cs:=by
  have hdi : d.i < (H i).length:=hf_lt hok.hi (by simp)
  have : hD m.length ix H N listed d.i = hf (H i) d.i:=by
   have p1' : (hD m.length ix H N listed d.i).here:=p1
   unfold hD at p1' ⊢
   split
   ·rename_i h0
    exact (R.pre' (Nat.zero_le i) (by omega) h0).symm
   ·rename_i h0
    rw [if_neg h0] at p1'
    split
    ·exact R.pre' (show i ≤ m.length by omega) (Nat.le_refl _) hdi
    ·rename_i h1
     rw [if_neg h1] at p1'
     exact p1'.elim
  rw [this]; exact hok.hi
 have e2:=hR.cellsT ey hok.hy
 obtain ⟨vs,q1,q2,q3,q4⟩:=hR.cells_at hHi p2
 have hlen:=e2.len
 have hvl:=q3.len
 have hle:=hok.le
 obtain ⟨w',r1,r2,r3⟩:=store_blk (P:=P) (off:=d.off) (a.eval d.y).cells.toList 0 w vs q1 (cells_one hR e2 hok.one) (by omega)
 have r1' : (storeVar d.t ⟨gg,d.off,none⟩ (a.eval d.y)).run P w = .ok () w':=by
  have hs : (a.eval d.y).cells.size = d.ti.n:=by rw [← hok.hl,← hlen]; simp
  simp [storeVar,ti_size hok.ht,hs,r1]
 have hhere : (hD m.length ix H N listed d.i).here:=by rw [hHi]; trivial
 have hself : updf (hD m.length ix H N listed) d.i (.cells d.t0 d.cs) = hD m.length ix H N listed:=updf_self _ _ _ hHi
 have KK : Keeps (cxOf B ρ (hD m.length ix H N listed) w) (cxOf B ρ (hD m.length ix H N listed) w'):=by
  have:=Keeps.put (B:=B) (lb:=.cells d.t0 d.cs) hhere trivial p2 r3
  rwa [hself] at this
 have hR' : Rel B w0 ρ (hD m.length ix H N listed) w':=by
  have:=hR.put (lb:=.cells d.t0 d.cs) hhere trivial p2 q2 r3 (fun t cs e=>by
   injection e with e1 e3
   subst e1 e3
   refine ⟨gg,setsV vs d.off (a.eval d.y).cells.toList,q4,by simpa using r2,q2,?_⟩
   rw [hself]
   have h1:=setsV_dn d.off (DnL.keep KK _ _ q3) (DnL.anys (C:=cxOf B ρ (hD m.length ix H N listed) w') d.ls.length (a.eval d.y).cells.toList (by omega))
   rwa [hok.any] at h1) (fun e sz els e'=>by cases e')
  rwa [hself] at this
 refine wpOp_step hoa fun K hK=>?_
 rw [show Region.wanted o (yielded l.toArray a.tmps) = true by simp [Region.wanted,hok.g]]
 simp only [if_true]
 unfold Oper.wp
 have hrun : (execOp a.eval o).run P w = .ok .skip w':=by simp [execOp,hok.op,p3,Instr.storeAt,Instr.sureAddr,r1']
 rw [hrun]
 refine hK _ _ ⟨?_,?_,by rw [hDn]; exact KK,hhere,gg,q4,r3⟩
 ·rw [hok.dst]
  unfold PIb
  rw [hDn]
  refine ⟨hR',DnL.keep KK _ _ hgh,by simpa [Act.put] using hsz,by simpa [Act.put] using hdf,fun t u ht=>?_⟩
  obtain ⟨z1,z2⟩:=hpt t u (by simpa [Act.put] using ht)
  refine ⟨fun j oj hj hoj hdj hlj=>?_,fun hall=>?_⟩
  ·have hji : j ≠ i:=by
    rintro rfl
    rw [ho'] at hoj
    injection hoj with hoj
    rw [← hoj,hok.dst] at hdj
    cases hdj
   exact Dn.keep KK _ _ (z1 j oj hj hoj hdj (by rw [getD_set_ne false (fun e=>hji (hinj _ _ hi hj e).symm)] at hlj; exact hlj))
  ·refine Dn.keep KK _ _ (z2 fun j oj hj hoj hdj=>?_)
   have hji : j ≠ i:=by
    rintro rfl
    rw [ho'] at hoj
    injection hoj with hoj
    rw [← hoj,hok.dst] at hdj
    cases hdj
   have:=hall j oj hj hoj hdj
   rwa [getD_set_ne false (fun e=>hji (hinj _ _ hi hj e).symm)] at this
 ·refine ⟨hhere,gg,_,q4,Nat.lt_of_lt_of_le q1.lt r3.size,DnL.keep KK _ _ e2,fun j u hj=>?_⟩
  have hjl:=(List.getElem?_eq_some_iff.1 hj).1
  rw [r2.cell]
  simp only [Nat.add_zero,List.getElem?_toArray]
  rw [setsV_at _ _ _ (by omega) hjl]
  exact hj
def setLB (h : List LB) : List StD→List LB
 | []=>h
 | d :: ds=>setLB (h.set d.i d.lb) ds
theorem setLB_rel {ρ : Nat→Value} {s g : List TV} {a : Act} {w : World} : ∀ (pd : List StD) (h : List LB),pd.Pairwise (fun a b=>a.i ≠ b.i)→(∀ d ∈ pd,Stored B ρ (hf h) w d∧hf h d.i = .cells d.t0 d.cs∧d.off + d.ls.length ≤ d.cs.length)→RelS B w0 gh ρ ⟨s,h,g⟩ a w→RelS B w0 gh ρ ⟨s,setLB h pd,g⟩ a w
 | [],h,_,_,hr=>hr
 | d :: pd,h,hn,hok,hr=>by
  obtain ⟨h1,h2,h3⟩:=hok d (by simp)
  obtain ⟨h4,h5⟩:=Rel.know hr.rel h1 h2 h3
  have hil : d.i < h.length:=hf_lt h2 (by simp)
  have e : hf (h.set d.i d.lb) = updf (hf h) d.i d.lb:=hf_set hil _
  refine setLB_rel pd (h.set d.i d.lb) (List.pairwise_cons.1 hn).2 (fun d' hd'=>?_) ⟨by rw [e]; exact DnL.keep h5 _ _ hr.slots,by rw [e]; exact DnL.keep h5 _ _ hr.ghost,by rw [e]; exact h4,hr.defers⟩
  obtain ⟨k1,k2,k3⟩:=hok d' (by simp [hd'])
  have hne : d'.i ≠ d.i:=fun e=>(List.pairwise_cons.1 hn).1 d' hd' e.symm
  refine ⟨?_,by rw [e,updf_ne _ _ hne]; exact k2,k3⟩
  rw [e]
  exact k1.keep h5 fun g _ hg=>⟨rfl,hg⟩
theorem TA.late {Q : Exit→St→Prop} {σ : St} (n : Nat) (hm : P.follows .mixedOrders = true)
  (hB : (backB l.toArray && decide (n ≤ l.length) && parB l (l.take n) ixI && (decide (n = l.length) || (decide (n < l.length) && Region.sinkB .any l.toArray n && Region.chainB .any l.toArray n && Region.seqB .any l.toArray (l.length - n) n (headOf n l.length)))) = true)
  (h : TPs P B w0 l (l.take n) σ.s σ.h [] fun s h pd=>TL P B w0 gh l.toArray (l.drop n) ⟨s,setLB h pd,σ.g⟩ Q) : TA P B w0 gh l.toArray σ Q:=fun ρ a w hr=>by
 simp only [Bool.and_eq_true,Bool.or_eq_true,decide_eq_true_eq] at hB
 obtain ⟨⟨⟨hb,hn⟩,hp⟩,htail⟩:=hB
 obtain ⟨m,hmm⟩ : ∃ m,l.take n = m:=⟨_,rfl⟩
 have hlen : m.length = n:=by rw [← hmm]; simp [hn]
 rw [hmm] at h hp
 subst hlen
 obtain ⟨S,H,V,N,b,st,D,pd,e1,e2,e3,e5,e6,e7,e8,e4⟩:=runs_s m σ.s σ.h [] _ h (by simp)
 rw [List.nil_append] at e3 e5
 have R : Runs P B w0 l m S H V N b st:=⟨fun i o h1 h2=>(e4 i o h1 h2).1⟩
 have hix : ∀ p o,m[p]? = some o→l[ixI p]? = some o:=fun p o hp=>by
  have : p < m.length:=(List.getElem?_eq_some_iff.1 hp).1
  rw [← hmm,List.getElem?_take_of_lt this] at hp
  exact hp
 have hn' : m.length ≤ l.toArray.size:=by simpa using hn
 show wpAny P .any l.toArray (liftQ B w0 gh Q) l.toArray.size (Array.replicate l.toArray.size false) a w.drew
 have inv0 : HeadInv .any l.toArray m.length (Array.replicate l.toArray.size false):=
  ⟨by simp,fun j oj _ hl=>(by rw [getD_replicate_false] at hl; cases hl),fun t _ ht=>getD_in (by simpa using ht) (getD_replicate_false _ _)⟩
 have hno : ∀ listed,HeadInv .any l.toArray m.length listed→(∃ i,i < m.length∧listed.getD i true = false)→∀ t,m.length ≤ t→t ∉ Region.ready .any l.toArray listed:=by
  rcases htail with hnl | ⟨⟨⟨hlt,hs⟩,hc⟩,hq⟩
  ·intro listed _ _ t ht hr
   obtain ⟨_,o,ho,_⟩:=mem_ready.1 hr
   have:=(Array.getElem?_eq_some_iff.1 ho).1
   simp at this
   omega
  ·intro listed inv ⟨i,hi,hl⟩ t ht
   exact tail_waits hs hc (by simpa using hlt) inv (m.length - i) i rfl hi hl t ht
 have key:=wpAny_inv (P:=P) (ops:=l.toArray) (Q:=liftQ B w0 gh Q) (n:=m.length) hb hn' hno (fun listed a w=>∃ ρ,PIb B w0 gh m ixI S H V N σ.g ρ listed a w∧∀ i,i < m.length→st i = true→listed.getD i false = true→Stored B ρ (hD m.length ixI H N listed) w (D i))
  (fun listed a w i inv hI hi hl hd=>by
   obtain ⟨ρ,hI,hS⟩:=hI
   have hsize : listed.size = l.length:=by rw [inv.size]; simp
   have hset : ∀ j,j ≠ i→(listed.setIfInBounds i true).getD j false = listed.getD j false:=fun j hj=>getD_set_ne false (fun e=>hj e.symm)
   cases hsi : st i with
   | false=>
    refine wpOp_mono (fun a' w' ⟨ρ',h1,h2,h3⟩=>⟨ρ',h1,fun j hj hsj hlj=>?_⟩) (region_par_core' R hp hix (fun p q _ _ h=>h) hsize hI hi hl hsi hd)
    have hji : j ≠ i:=by rintro rfl; rw [hsi] at hsj; cases hsj
    have hlj' : (listed.setIfInBounds i true).getD j false = true:=hlj
    exact (hS j hj hsj (by rw [← hset j hji]; exact hlj')).keep h2 fun g _ hg=>⟨h3.block g hg,Nat.lt_of_lt_of_le hg h3.size⟩
   | true=>
    have hok : ∀ o,m[i]? = some o→(D i).Ok P (S i) (H i) o∧N i = none:=fun o ho=>(e4 i o hi ho).2 hsi
    have hNi : N i = none:=(hok _ (List.getElem?_eq_getElem hi)).2
    have hDn : hD m.length ixI H N (listed.setIfInBounds i true) = hD m.length ixI H N listed:=hD_none (ix:=ixI) (fun p q _ _ h=>h) hi hNi
    have hR:=hI.1
    refine wpOp_mono (fun a' w' ⟨h1,h2,h3,h4,gg,h5,h6⟩=>⟨ρ,h1,fun j hj hsj hlj=>?_⟩) (store_core R hp hix (fun p q _ _ h=>h) hsize hI hi hl hok hd)
    have hlj' : (listed.setIfInBounds i true).getD j false = true:=hlj
    show Stored B ρ (hD m.length ixI H N (listed.setIfInBounds i true)) w' (D j)
    by_cases hji : j = i
    ·subst hji
     rw [hDn]; exact h2
    ·have hne : (D j).i ≠ (D i).i:=by
      rcases Nat.lt_or_ge j i with h7 | h7
      ·exact e8 j i h7 hi hsj hsi
      ·exact fun e=>e8 i j (by omega) hj hsi hsj e.symm
     have hSj:=hS j hj hsj (by rw [← hset j hji]; exact hlj')
     refine hSj.keep h3 fun g hg1 hg=>⟨h6.block g hg fun e=>?_,Nat.lt_of_lt_of_le hg h6.size⟩
     injection e with e
     subst e
     exact hne (hR.sep _ _ _ hSj.1 h4 (by rw [hg1]; rfl) (by rw [h5]; rfl)))
  (fun listed a' w' inv hall hI=>by
   have hlist:=headOf_eq hn' inv hall
   subst hlist
   have hl : ∀ i,i < m.length→(headOf m.length l.toArray.size).getD i false = true:=fun i hi=>by
    have h1:=hall i hi
    have h2 : i < (headOf m.length l.toArray.size).size:=by rw [inv.size]; omega
    simp only [Array.getD,h2,dite_true] at h1 ⊢
    exact h1
   obtain ⟨ρ',⟨hR,hgh,hsz,hdf,hpt⟩,hSt⟩:=hI
   have hDf : hD m.length ixI H N (headOf m.length l.toArray.size) = hf (H m.length):=by
    funext k
    unfold hD
    split
    ·rename_i h0
     exact (R.pre' (Nat.zero_le m.length) (Nat.le_refl _) h0).symm
    ·rename_i h0
     split
     ·rfl
     ·rename_i h1
      rcases Nat.lt_or_ge k (H m.length).length with h2 | h2
      ·exfalso
       -- the step that made k
       have : ∀ d,d ≤ m.length→k < (H d).length→∃ i,i < m.length∧(headOf m.length l.toArray.size).getD i false = true∧(N i).isSome = true∧(H i).length = k:=by
        intro d
        induction d with
        | zero=>intro _ h3; exact absurd h3 h0
        | succ d ih=>
         intro hd h3
         rcases Nat.lt_or_ge k (H d).length with h4 | h4
         ·exact ih (by omega) h4
         ·obtain ⟨_,_,_,_,h5⟩:=R.step d (m[d]'(by omega)) (by omega) (List.getElem?_eq_getElem _)
          cases hN : N d with
          | none=>rw [h5,hN] at h3; simp only [addO] at h3; omega
          | some x=>
           have:=(R.succ (by omega) hN).1
           exact ⟨d,by omega,hl d (by omega),by rw [hN]; rfl,by omega⟩
       exact h1 (this m.length (Nat.le_refl _) h2)
      ·exact (hf_ge h2).symm
   rw [hDf] at hR hgh hpt hSt
   have hRS : RelS B w0 gh ρ' ⟨S m.length,H m.length,σ.g⟩ a' w':=by
    refine ⟨?_,hgh,hR,hdf⟩
    refine dnl_of_point _ _ (by have:=R.slen m.length (Nat.le_refl _); simp [hsz,this]) fun t x u hx hu=>?_
    have hu' : a'.tmps[t]? = some u:=by rw [← Array.getElem?_toList]; exact hu
    obtain ⟨q1,q2⟩:=hpt t u hu'
    have htl : t < (S 0).length:=by
     have h1:=(List.getElem?_eq_some_iff.1 hx).1
     have h2:=R.slen m.length (Nat.le_refl _)
     simp only at h1
     omega
    rcases R.slot htl m.length (Nat.le_refl _) with ⟨j,oj,h1,h2,h3,h4⟩ | ⟨h1,h2⟩
    ·have : x = V j:=by rw [h4] at hx; exact (Option.some.inj hx).symm
     subst this
     exact q1 j oj h1 h2 h3 (hl j h1)
    ·have : x = (S 0).getD t .any:=by
      rw [h2] at hx
      simp [List.getD,hx]
     subst this
     exact q2 fun j oj hj hoj hd=>absurd hd (h1 j oj hj hoj)
   have hok : ∀ d ∈ pd,Stored B ρ' (hf (H m.length)) w' d∧hf (H m.length) d.i = .cells d.t0 d.cs∧d.off + d.ls.length ≤ d.cs.length:=fun d hd=>by
    obtain ⟨i,hi,hsi,rfl⟩:=e6 d hd
    obtain ⟨h1,_⟩:=(e4 i _ hi (List.getElem?_eq_getElem hi)).2 hsi
    refine ⟨hSt i hi hsi (hl i hi),?_,h1.le⟩
    rw [R.pre' (show i ≤ m.length by omega) (Nat.le_refl _) (hf_lt h1.hi (by simp))]
    exact h1.hi
   have hRS:=setLB_rel pd (H m.length) e5 hok hRS
   have hT:=e3 ρ' a' w' hRS
   rcases htail with hnl | ⟨⟨⟨hlt,hs⟩,hc⟩,hq⟩
   ·have hdr : l.drop m.length = []:=by rw [hnl]; simp
    rw [hdr] at hT
    have hrd : Region.ready .any l.toArray (headOf m.length l.toArray.size) = []:=by
     rw [List.eq_nil_iff_forall_not_mem]
     intro t hr'
     obtain ⟨hl',o,ho,_⟩:=mem_ready.1 hr'
     have:=(Array.getElem?_eq_some_iff.1 ho).1
     have hlt : t < l.length:=by simpa using this
     have h5:=hl t (by omega)
     have h6 : t < (headOf m.length l.toArray.size).size:=by rw [inv.size]; exact this
     simp only [Array.getD,h6,dite_true] at hl' h5
     rw [hl'] at h5
     cases h5
    rw [show l.toArray.size - m.length = 0 by simp; omega]
    exact ⟨hrd,hT⟩
   ·have:=wpAny_of_seq (P:=P) (ops:=l.toArray) (md:=.any) (Q':=liftQ B w0 gh Q) (l.drop m.length) m.length (headOf m.length l.length) a' w' (fun j=>by simp [List.getElem?_drop]) (by rw [List.length_drop]; exact hq) hT
    simpa using this)
  (leftOf m.length (Array.replicate l.toArray.size false)) _ a w.drew inv0 rfl
  (by
   have hD0 : hD m.length ixI H N (Array.replicate l.toArray.size false) = hf σ.h:=by
    funext k
    unfold hD
    rw [e2]
    split
    ·rfl
    ·rename_i h0
     rw [if_neg,hf_ge (by omega)]
     rintro ⟨i,_,h1,_⟩
     rw [getD_replicate_false] at h1
     cases h1
   refine ⟨ρ,?_,fun i _ _ h1=>(by rw [getD_replicate_false] at h1; cases h1)⟩
   unfold PIb
   rw [hD0,e1]
   have hb0 : Below w.heap.size w w.drew:=(Below.refl _ _).drew
   have KK : Keeps (cxOf B ρ (hf σ.h) w) (cxOf B ρ (hf σ.h) w.drew):=.grow hb0
   refine ⟨hr.rel.grow hb0,DnL.keep KK _ _ hr.ghost,by have:=hr.slots.len; simpa using this,hr.defers,fun t u hu=>⟨fun i o hi ho hd hl=>(by rw [getD_replicate_false] at hl; cases hl),fun _=>?_⟩⟩
   have hsl:=tev_dn hr.slots (.tmp t)
   have h2 : a.eval (.tmp t) = u:=by simp [Act.eval,Array.getD_eq_getD_getElem?,hu]
   rw [h2] at hsl
   exact Dn.keep KK _ _ hsl)
 have hleft : leftOf m.length (Array.replicate l.toArray.size false) = m.length:=by
  unfold leftOf
  rw [List.filter_eq_self.2]
  ·simp
  ·intro i hi
   rw [List.mem_range] at hi
   have : i < l.length:=by omega
   simp [this]
 rw [hleft,show m.length + (l.toArray.size - m.length) = l.toArray.size by omega] at key
 exact key
theorem SLe.anyc {σ : St} (i off n : Nat) {t : TypeId} {cs : List TV} (hi : hf σ.h i = .cells t cs) (hle : off + n ≤ cs.length) : SLe B w0 gh σ (⟨σ.s,σ.h.set i (.cells t (setsV cs off (List.replicate n .any))),σ.g⟩ : St):=fun ρ a w hr=>by
 have hil : i < σ.h.length:=hf_lt hi (by simp)
 have R:=hr.rel
 have hhere : (hf σ.h i).here:=by rw [hi]; trivial
 obtain ⟨g,vs,q1,q2,q3,q4⟩:=R.blk i t cs hi
 have hg : blkOf (ρ i) = some g:=by rw [q1]; rfl
 have KK : Keeps (cxOf B ρ (hf σ.h) w) (cxOf B ρ (updf (hf σ.h) i (.cells t (setsV cs off (List.replicate n .any)))) w):=.put hhere trivial hg (World.grownBy.refl _ _)
 have hl:=q4.len
 refine ⟨ρ,?_,?_,?_,hr.defers⟩
 ·simp only [hf_set hil]; exact DnL.keep KK _ _ hr.slots
 ·simp only [hf_set hil]; exact DnL.keep KK _ _ hr.ghost
 ·simp only [hf_set hil]
  refine R.put hhere trivial hg q3 (World.grownBy.refl _ _) (fun t' cs' e=>?_) (fun e sz els e'=>by cases e')
  injection e with e1 e2
  subst e1 e2
  refine ⟨g,vs,q1,q2,q3,?_⟩
  have h1:=setsV_dn off (DnL.keep KK _ _ q4) (DnL.anys (C:=cxOf B ρ (updf (hf σ.h) i (.cells t (setsV cs off (List.replicate n .any)))) w) n ((vs.drop off).take n) (by simp; omega))
  have h2 : setsV vs off ((vs.drop off).take n) = vs:=by
   unfold setsV
   rw [List.length_take,List.length_drop,Nat.min_eq_left (by omega),← List.drop_drop,List.take_append_drop,List.take_append_drop]
  rwa [h2] at h1
end
end Go.Proofs.YtpgfhkbnngjegaaGreatDoor

namespace Go.Proofs.YtpgfhkbnngjegaaGreatDoor
open Go.RowKit
set_option linter.unusedVariables false
set_option linter.unusedSimpArgs false
/- Nil slices as slices of nothing. -/
mutual
def nz : TV→TV
 | .agg ts=>.agg (nzL ts)
 | .tup ts=>.tup (nzL ts)
 | .fn f ts=>.fn f (nzL ts)
 | .ptr i off=>.ptr i off
 | .row i=>.row i
 | .sl b els=>.sl b (nzLL els)
 | .eptr ts=>.eptr (nzL ts)
 | .osl e sz els=>.osl e sz (nzLL els)
 | .z i t=>.z i t
 | .win i k sz=>.win i k sz
 | .any=>.any
 | .nil_=>.sl true []
 | .v u=>.v u
def nzL : List TV→List TV
 | []=>[]
 | t :: ts=>nz t :: nzL ts
def nzLL : List (List TV)→List (List TV)
 | []=>[]
 | t :: ts=>nzL t :: nzLL ts
end
theorem nzLL_len : ∀ els : List (List TV),(nzLL els).length = els.length
 | []=>rfl
 | t :: ts=>by simp [nzLL,nzLL_len ts]
theorem nzLL_nil {els : List (List TV)} (h : nzLL els ≠ []) : els ≠ []:=by
 rintro rfl
 exact h rfl
section
variable {C : Cx}
mutual
theorem Dn.nz {C' : Cx} (K : Keeps C C') : ∀ (t : TV) (u : Value),Dn C t u→Dn C' (nz t) u
 | .any,u,h=>by simp [Dn,Go.Proofs.YtpgfhkbnngjegaaGreatDoor.nz]
 | .v _,u,h=>by simp only [Dn,Go.Proofs.YtpgfhkbnngjegaaGreatDoor.nz] at h ⊢; exact h
 | .nil_,u,h=>by
  simp only [Dn,Go.Proofs.YtpgfhkbnngjegaaGreatDoor.nz] at h ⊢
  exact ⟨none,0,[],0,h,Nat.le_refl _,by simp [maxLen],by simp,by simp,by simp [DnLL],fun ad ha=>by cases ha⟩
 | .agg ts,u,h=>by
  simp only [Dn,Go.Proofs.YtpgfhkbnngjegaaGreatDoor.nz] at h ⊢
  obtain ⟨vs,h1,h2⟩:=h
  exact ⟨vs,h1,DnL.nz K ts vs h2⟩
 | .tup ts,u,h=>by
  simp only [Dn,Go.Proofs.YtpgfhkbnngjegaaGreatDoor.nz] at h ⊢
  obtain ⟨vs,h1,h2⟩:=h
  exact ⟨vs,h1,DnL.nz K ts vs h2⟩
 | .fn f ts,u,h=>by
  simp only [Dn,Go.Proofs.YtpgfhkbnngjegaaGreatDoor.nz] at h ⊢
  obtain ⟨vs,h1,h2⟩:=h
  exact ⟨vs,h1,DnL.nz K ts vs h2⟩
 | .ptr i off,u,h=>by simp only [Go.Proofs.YtpgfhkbnngjegaaGreatDoor.nz]; exact Dn.keep K _ _ h
 | .row i,u,h=>by simp only [Go.Proofs.YtpgfhkbnngjegaaGreatDoor.nz]; exact Dn.keep K _ _ h
 | .sl b els,u,h=>by
  simp only [Dn,Go.Proofs.YtpgfhkbnngjegaaGreatDoor.nz] at h ⊢
  obtain ⟨A,c,css,sz,h1,h2,h3,h4,h5,h6,h7⟩:=h
  rw [nzLL_len]
  refine ⟨A,c,css,sz,h1,h2,h3,fun ha=>by rw [h4 ha]; rfl,h5,DnLL.nz K els css h6,fun ad ha=>?_⟩
  obtain ⟨h8,h9⟩:=h7 ad ha
  refine ⟨fun hne=>?_,fun i y hy=>?_⟩
  ·obtain ⟨h10,h11,h12⟩:=h8 (nzLL_nil hne)
   obtain ⟨h13,h14,h15⟩:=K.blk _ h10 h11
   exact ⟨h14,h15,fun hb=>⟨Nat.le_trans K.base (h12 hb).1,by unfold Unf; rw [h13]; exact (h12 hb).2⟩⟩
  ·have hne : els ≠ []:=by
    rintro rfl
    simp only [DnLL] at h6
    subst h6
    simp at hy
   obtain ⟨h10,h11,h12⟩:=h8 hne
   exact cell_keep (by rw [addr_block]; exact (K.blk _ h10 h11).1) (h9 i y hy)
 | .eptr ts,u,h=>by
  simp only [Dn,Go.Proofs.YtpgfhkbnngjegaaGreatDoor.nz] at h ⊢
  obtain ⟨ad,vs,h1,h2,h3,h4,h5⟩:=h
  obtain ⟨h13,h14,h15⟩:=K.blk _ h2 h3
  exact ⟨ad,vs,h1,h14,h15,DnL.nz K ts vs h4,fun i y hy=>cell_keep (by rw [addr_block]; exact h13) (h5 i y hy)⟩
 | .osl e sz els,u,h=>by
  simp only [Dn,Go.Proofs.YtpgfhkbnngjegaaGreatDoor.nz] at h ⊢
  obtain ⟨A,c,css,h1,h2,h3,h4⟩:=h
  rw [nzLL_len]
  exact ⟨A,c,css,h1,K.own _ _ _ _ _ h2,h3,DnLL.nz K els css h4⟩
 | .z i t,u,h=>by simp only [Go.Proofs.YtpgfhkbnngjegaaGreatDoor.nz]; exact Dn.keep K _ _ h
 | .win i k sz,u,h=>by simp only [Go.Proofs.YtpgfhkbnngjegaaGreatDoor.nz]; exact Dn.keep K _ _ h
theorem DnL.nz {C' : Cx} (K : Keeps C C') : ∀ (ts : List TV) (us : List Value),DnL C ts us→DnL C' (nzL ts) us
 | [],us,h=>by simp only [DnL,nzL] at h ⊢; exact h
 | t :: ts,us,h=>by
  simp only [DnL,nzL] at h ⊢
  obtain ⟨u,us',h1,h2,h3⟩:=h
  exact ⟨u,us',h1,Dn.nz K t u h2,DnL.nz K ts us' h3⟩
theorem DnLL.nz {C' : Cx} (K : Keeps C C') : ∀ (ts : List (List TV)) (us : List (List Value)),DnLL C ts us→DnLL C' (nzLL ts) us
 | [],us,h=>by simp only [DnLL,nzLL] at h ⊢; exact h
 | t :: ts,us,h=>by
  simp only [DnLL,nzLL] at h ⊢
  obtain ⟨u,us',h1,h2,h3⟩:=h
  exact ⟨u,us',h1,DnL.nz K t u h2,DnLL.nz K ts us' h3⟩
end
end
section
variable {P : Program} {B : Nat} {w0 : World} {gh : List Value} {Q : Exit→St→Prop} {σ : St} {ops : Array Oper} {o : Oper} {rest : List Oper}
end
end Go.Proofs.YtpgfhkbnngjegaaGreatDoor
