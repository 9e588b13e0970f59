/- The rules over trees in the form that a printed walk uses: the new state by an equation. Condition: those of the rules. -/
import Derived.Test.YtpgfhkbnngjegaaGreatDoorPar
import Derived.IntWalk
namespace Go.Proofs.YtpgfhkbnngjegaaGreatDoor
open Go.RowKit
set_option linter.unusedVariables false
set_option linter.unusedSimpArgs false
def tmpsOf : List Operand→List Tmp
 | []=>[]
 | .tmp t :: xs=>t :: tmpsOf xs
 | _ :: xs=>tmpsOf xs
theorem mem_tmpsOf {t : Tmp} : ∀ {xs : List Operand},.tmp t ∈ xs→t ∈ tmpsOf xs
 | [],h=>by cases h
 | x :: xs,h=>by
  rcases List.mem_cons.1 h with h | h
  ·subst h; simp [tmpsOf]
  ·have:=mem_tmpsOf h
   cases x <;> simp [tmpsOf,this]
def readsOf (l : List Oper) (o : Oper) : List Tmp:=tmpsOf o.op.operands.toList ++ match o.guard with
 | some (j,_)=>((l[j]?).bind (·.dst)).toList
 | none=>[]
def parB (l m : List Oper) (ix : Nat→Nat) : Bool:=
 (List.range m.length).all fun i=>match m[i]? with
  | none=>true
  | some o=>(List.range m.length).all fun j=>match (m[j]?).bind (·.dst) with
   | none=>true
   | some d=>(!(readsOf l o).contains d || (decide (j < i) && o.after.any fun e=>decide (e.on = ix j) && Region.binds .any e)) && (decide (i = j) || !(o.dst == some d))
theorem parB_spec {l m : List Oper} {ix : Nat→Nat} (h : parB l m ix = true) {i j : Nat} {o oj : Oper} {d : Tmp} (hi : i < m.length) (hj : j < m.length) (ho : m[i]? = some o) (hoj : m[j]? = some oj) (hd : oj.dst = some d) :
  (d ∈ readsOf l o→j < i∧∃ e ∈ o.after,e.on = ix j∧Region.binds .any e = true)∧(i ≠ j→o.dst ≠ some d):=by
 have h1:=List.all_eq_true.1 h i (List.mem_range.2 hi)
 simp only [ho] at h1
 have h2:=List.all_eq_true.1 h1 j (List.mem_range.2 hj)
 simp only [hoj,Option.bind_some,hd,Bool.and_eq_true,Bool.or_eq_true,Bool.not_eq_true',decide_eq_true_eq] at h2
 obtain ⟨h3,h4⟩:=h2
 refine ⟨fun hm=>?_,fun hne he=>?_⟩
 ·rcases h3 with h3 | ⟨h3,h5⟩
  ·have : (readsOf l o).contains d = true:=by simpa using hm
   rw [this] at h3
   cases h3
  ·refine ⟨h3,?_⟩
   obtain ⟨k,hk,h6⟩:=Array.any_eq_true.1 h5
   simp only [Bool.and_eq_true,decide_eq_true_eq] at h6
   exact ⟨_,Array.getElem_mem hk,h6.1,h6.2⟩
 ·rcases h4 with h4 | h4
  ·exact hne h4
  ·simp [he] at h4
def Wants (l : List Oper) (s : List TV) (o : Oper) (b : Bool) : Prop:=match o.guard with
 | none=>b = true
 | some (j,c)=>∃ og d x,l[j]? = some og∧og.dst = some d∧d < s.length∧tev s (.tmp d) = .v x∧b = isB x c
def putO (s : List TV) (d : Option Tmp) (t : TV) : List TV:=match d with | some d=>s.set d t | none=>s
def addO (h : List LB) : Option LB→List LB
 | none=>h
 | some b=>h ++ [b]
def TPar (P : Program) (B : Nat) (w0 : World) (l : List Oper) : List Oper→List TV→List LB→(List TV→List LB→Prop)→Prop
 | [],s,h,K=>K s h
 | o :: rest,s,h,K=>∃ tv new b,Wants l s o b∧(b = true→TStep P B w0 h s o tv new)∧(b = false→tv = .v undef∧new = none)∧TPar P B w0 l rest (putO s o.dst tv) (addO h new) K
section
variable {P : Program} {B : Nat} {w0 : World} {gh : List Value} {l : List Oper}
theorem TPar.run {o : Oper} {rest : List Oper} {s : List TV} {h : List LB} {K : List TV→List LB→Prop} {tv : TV} {new : Option LB} (hg : o.guard = none) (hs : TStep P B w0 h s o tv new) (hr : TPar P B w0 l rest (putO s o.dst tv) (addO h new) K) : TPar P B w0 l (o :: rest) s h K:=
 ⟨tv,new,true,by simp [Wants,hg],fun _=>hs,fun h=>(by cases h),hr⟩
theorem TPar.run_g {o og : Oper} {rest : List Oper} {s : List TV} {h : List LB} {K : List TV→List LB→Prop} {tv : TV} {new : Option LB} {j d : Nat} {b : Bool} (hg : o.guard = some (j,b)) (ho : l[j]? = some og) (hd : og.dst = some d) (hdl : d < s.length) (hb : tev s (.tmp d) = .v (.bool b)) (hs : TStep P B w0 h s o tv new) (hr : TPar P B w0 l rest (putO s o.dst tv) (addO h new) K) : TPar P B w0 l (o :: rest) s h K:=
 ⟨tv,new,true,by simp only [Wants,hg]; exact ⟨og,d,_,ho,hd,hdl,hb,by simp [isB]⟩,fun _=>hs,fun h=>(by cases h),hr⟩
theorem TPar.skip_g {o og : Oper} {rest : List Oper} {s : List TV} {h : List LB} {K : List TV→List LB→Prop} {j d : Nat} {x : Value} {b' : Bool} (hg : o.guard = some (j,b')) (ho : l[j]? = some og) (hd : og.dst = some d) (hdl : d < s.length) (hb : tev s (.tmp d) = .v x) (hne : isB x b' = false) (hr : TPar P B w0 l rest (putO s o.dst (.v undef)) h K) : TPar P B w0 l (o :: rest) s h K:=
 ⟨.v undef,none,false,by simp only [Wants,hg]; exact ⟨og,d,x,ho,hd,hdl,hb,hne.symm⟩,fun h=>(by cases h),fun _=>⟨rfl,rfl⟩,hr⟩
structure Runs (P : Program) (B : Nat) (w0 : World) (l m : List Oper) (S : Nat→List TV) (H : Nat→List LB) (V : Nat→TV) (N : Nat→Option LB) (b st : Nat→Bool) : Prop where
 step : ∀ i o,i < m.length→m[i]? = some o→Wants l (S i) o (b i)∧(b i = true→st i = false→TStep P B w0 (H i) (S i) o (V i) (N i))∧(b i = false→V i = .v undef∧N i = none)∧S (i + 1) = putO (S i) o.dst (V i)∧H (i + 1) = addO (H i) (N i)
theorem runs_of : ∀ (rest : List Oper) (k : Nat) (s : List TV) (h : List LB) (K : List TV→List LB→Prop),TPar P B w0 l rest s h K →
  ∃ (S : Nat→List TV) (H : Nat→List LB) (V : Nat→TV) (N : Nat→Option LB) (b : Nat→Bool),S 0 = s∧H 0 = h∧K (S rest.length) (H rest.length)∧∀ i o,i < rest.length→rest[i]? = some o→Wants l (S i) o (b i)∧(b i = true→TStep P B w0 (H i) (S i) o (V i) (N i))∧(b i = false→V i = .v undef∧N i = none)∧S (i + 1) = putO (S i) o.dst (V i)∧H (i + 1) = addO (H i) (N i)
 | [],k,s,h,K,hp=>⟨fun _=>s,fun _=>h,fun _=>.any,fun _=>none,fun _=>true,rfl,rfl,hp,fun i o hi=>(by simp at hi)⟩
 | o :: rest,k,s,h,K,hp=>by
  obtain ⟨tv,new,b0,h1,h2,h3,h4⟩:=hp
  obtain ⟨S,H,V,N,b,e1,e2,e3,e4⟩:=runs_of rest (k + 1) _ _ K h4
  refine ⟨fun i=>match i with | 0=>s | i + 1=>S i,fun i=>match i with | 0=>h | i + 1=>H i,fun i=>match i with | 0=>tv | i + 1=>V i,fun i=>match i with | 0=>new | i + 1=>N i,fun i=>match i with | 0=>b0 | i + 1=>b i,rfl,rfl,e3,fun i o' hi ho=>?_⟩
  cases i with
  | zero=>
   simp only [List.getElem?_cons_zero,Option.some.injEq] at ho
   subst ho
   exact ⟨h1,h2,h3,e1,e2⟩
  | succ i=>
   simp only [List.getElem?_cons_succ] at ho
   exact e4 i o' (by simpa using hi) ho
theorem addO_len (h : List LB) (x : Option LB) : h.length ≤ (addO h x).length:=by cases x <;> simp [addO]
theorem addO_pre (h : List LB) (x : Option LB) {i : Nat} (hi : i < h.length) : hf (addO h x) i = hf h i:=by
 cases x with
 | none=>rfl
 | some b=>simp [addO,hf,List.getD,List.getElem?_append_left hi]
section
variable {m : List Oper} {S : Nat→List TV} {H : Nat→List LB} {V : Nat→TV} {N : Nat→Option LB} {b st : Nat→Bool}
theorem Runs.len (R : Runs P B w0 l m S H V N b st) : ∀ d i,i + d ≤ m.length→(H i).length ≤ (H (i + d)).length
 | 0,i,_=>Nat.le_refl _
 | d + 1,i,h=>by
  obtain ⟨_,_,_,_,h5⟩:=R.step (i + d) (m[i + d]'(by omega)) (by omega) (List.getElem?_eq_getElem _)
  have:=R.len d i (by omega)
  rw [show i + (d + 1) = i + d + 1 by omega,h5]
  exact Nat.le_trans this (addO_len _ _)
theorem Runs.pre (R : Runs P B w0 l m S H V N b st) : ∀ d i,i + d ≤ m.length→∀ k,k < (H i).length→hf (H (i + d)) k = hf (H i) k
 | 0,i,_,k,_=>rfl
 | d + 1,i,h,k,hk=>by
  obtain ⟨_,_,_,_,h5⟩:=R.step (i + d) (m[i + d]'(by omega)) (by omega) (List.getElem?_eq_getElem _)
  rw [show i + (d + 1) = i + d + 1 by omega,h5,addO_pre _ _ (Nat.lt_of_lt_of_le hk (R.len d i (by omega)))]
  exact R.pre d i (by omega) k hk
theorem Runs.mono (R : Runs P B w0 l m S H V N b st) {i j : Nat} (hij : i ≤ j) (hj : j ≤ m.length) : (H i).length ≤ (H j).length:=by
 have:=R.len (j - i) i (by omega)
 rwa [show i + (j - i) = j by omega] at this
theorem Runs.pre' (R : Runs P B w0 l m S H V N b st) {i j : Nat} (hij : i ≤ j) (hj : j ≤ m.length) {k : Nat} (hk : k < (H i).length) : hf (H j) k = hf (H i) k:=by
 have:=R.pre (j - i) i (by omega) k hk
 rwa [show i + (j - i) = j by omega] at this
theorem Runs.succ (R : Runs P B w0 l m S H V N b st) {i : Nat} {x : LB} (hi : i < m.length) (hN : N i = some x) : (H (i + 1)).length = (H i).length + 1∧hf (H (i + 1)) (H i).length = x:=by
 obtain ⟨_,_,_,_,h5⟩:=R.step i (m[i]'(by omega)) hi (List.getElem?_eq_getElem _)
 rw [h5,hN]
 refine ⟨by simp [addO],?_⟩
 rw [addO,hf_app,updf_same]
theorem Runs.slen (R : Runs P B w0 l m S H V N b st) : ∀ i,i ≤ m.length→(S i).length = (S 0).length
 | 0,_=>rfl
 | i + 1,h=>by
  obtain ⟨_,_,_,h4,_⟩:=R.step i (m[i]'(by omega)) (by omega) (List.getElem?_eq_getElem _)
  rw [h4,← R.slen i (by omega)]
  unfold putO
  split <;> simp
theorem Runs.slot (R : Runs P B w0 l m S H V N b st) {t : Tmp} (ht : t < (S 0).length) : ∀ i,i ≤ m.length →
  (∃ j o,j < i∧m[j]? = some o∧o.dst = some t∧(S i)[t]? = some (V j))∨((∀ j o,j < i→m[j]? = some o→o.dst ≠ some t)∧(S i)[t]? = (S 0)[t]?)
 | 0,_=>.inr ⟨fun j o hj=>absurd hj (by omega),rfl⟩
 | i + 1,h=>by
  have ho : m[i]? = some (m[i]'(by omega)):=List.getElem?_eq_getElem _
  obtain ⟨_,_,_,h4,_⟩:=R.step i _ (by omega) ho
  have hl:=R.slen i (by omega)
  by_cases hd : (m[i]'(by omega)).dst = some t
  ·refine .inl ⟨i,_,by omega,ho,hd,?_⟩
   rw [h4,hd]
   unfold putO
   simp [hl,ht]
  ·have hset : (S (i + 1))[t]? = (S i)[t]?:=by
    rw [h4]
    unfold putO
    split
    ·rename_i d hd'
     rw [List.getElem?_set_ne (fun e=>hd (by rw [hd',e]))]
    ·rfl
   rcases R.slot ht i (by omega) with ⟨j,o,h5,h6,h7,h8⟩ | ⟨h5,h6⟩
   ·exact .inl ⟨j,o,by omega,h6,h7,by rw [hset]; exact h8⟩
   ·refine .inr ⟨fun j o hj hoj=>?_,by rw [hset]; exact h6⟩
    rcases Nat.lt_or_ge j i with h9 | h9
    ·exact h5 j o h9 hoj
    ·have : j = i:=by omega
     subst this
     rw [ho] at hoj
     injection hoj with hoj
     subst hoj
     exact hd
end
def hD (n : Nat) (ix : Nat→Nat) (H : Nat→List LB) (N : Nat→Option LB) (listed : Array Bool) : Nat→LB:=fun k=>
 if k < (H 0).length then hf (H 0) k else if ∃ i,i < n∧listed.getD (ix i) false = true∧(N i).isSome = true∧(H i).length = k then hf (H n) k else .none
theorem dnl_of_point {C : Cx} : ∀ (s : List TV) (us : List Value),us.length = s.length→(∀ (t : Nat) x u,s[t]? = some x→us[t]? = some u→Dn C x u)→DnL C s us
 | [],[],h,_=>DnL.nil
 | [],u :: us,h,_=>by simp at h
 | x :: s,[],h,_=>by simp at h
 | x :: s,u :: us,h,hp=>DnL.cons (hp 0 x u rfl rfl) (dnl_of_point s us (by simpa using h) fun t y v hy hv=>hp (t + 1) y v (by simpa using hy) (by simpa using hv))
def PIb (B : Nat) (w0 : World) (gh : List Value) (m : List Oper) (ix : Nat→Nat) (S : Nat→List TV) (H : Nat→List LB) (V : Nat→TV) (N : Nat→Option LB) (g : List TV) (ρ : Nat→Value) (listed : Array Bool) (a : Act) (w : World) : Prop:=
 Rel B w0 ρ (hD m.length ix H N listed) w∧DnL (cxOf B ρ (hD m.length ix H N listed) w) g gh∧a.tmps.size = (S 0).length∧a.defers = [] ∧
  ∀ (t : Nat) (u : Value),a.tmps[t]? = some u→(∀ i o,i < m.length→m[i]? = some o→o.dst = some t→listed.getD (ix i) false = true→Dn (cxOf B ρ (hD m.length ix H N listed) w) (V i) u) ∧
   ((∀ i o,i < m.length→m[i]? = some o→o.dst = some t→listed.getD (ix i) false = false)→Dn (cxOf B ρ (hD m.length ix H N listed) w) ((S 0).getD t .any) u)
structure PI (B : Nat) (w0 : World) (gh : List Value) (m : List Oper) (ix : Nat→Nat) (S : Nat→List TV) (H : Nat→List LB) (V : Nat→TV) (N : Nat→Option LB) (g : List TV) (listed : Array Bool) (a : Act) (w : World) : Prop where
 ex : ∃ ρ,PIb B w0 gh m ix S H V N g ρ listed a w
theorem getD_set_self {xs : Array Bool} {i : Nat} (hi : i < xs.size) : (xs.setIfInBounds i true).getD i false = true:=by simp [hi]
theorem region_par_core' {Q : Exit→Act→World→Prop} {m : List Oper} {ix : Nat→Nat} {S : Nat→List TV} {H : Nat→List LB} {V : Nat→TV} {N : Nat→Option LB} {b st : Nat→Bool} {g : List TV} {ρ : Nat→Value} (R : Runs P B w0 l m S H V N b st) (hp : parB l m ix = true) (hix : ∀ p o,m[p]? = some o→l[ix p]? = some o) (hinj : ∀ p q,p < m.length→q < m.length→ix p = ix q→p = q)
  {listed : Array Bool} {a : Act} {w : World} {i : Nat} (hsize : listed.size = l.length) (hI : PIb B w0 gh m ix S H V N g ρ listed a w) (hi : i < m.length) (hl : listed.getD (ix i) true = false) (hst0 : st i = false)
  (hdeps : ∀ o,l.toArray[ix i]? = some o→∀ e ∈ o.after,Region.binds .any e = true→listed.getD e.on false = true) :
  wpOp P l.toArray Q (ix i) (fun a' w'=>∃ ρ',PIb B w0 gh m ix S H V N g ρ' (listed.setIfInBounds (ix i) true) a' w'∧Keeps (cxOf B ρ (hD m.length ix H N listed) w) (cxOf B ρ' (hD m.length ix H N (listed.setIfInBounds (ix i) true)) w')∧Below w.heap.size w w') a w:=by
 obtain ⟨hR,hgh,hsz,hdf,hpt⟩:=hI
 obtain ⟨o,ho'⟩ : ∃ o,m[i]? = some o:=⟨m[i]'hi,List.getElem?_eq_getElem _⟩
 have hol:=hix i o ho'
 have hoa : l.toArray[ix i]? = some o:=by simpa using hol
 have hiS : ix i < listed.size:=by rw [hsize]; exact (List.getElem?_eq_some_iff.1 hol).1
 have hlf : listed.getD (ix i) false = false:=by simp only [Array.getD,hiS,dite_true] at hl ⊢; exact hl
 obtain ⟨hw,hst,hsk,hS1,hH1⟩:=R.step i o hi ho'
 have hset : ∀ j,j < m.length→j ≠ i→(listed.setIfInBounds (ix i) true).getD (ix j) false = listed.getD (ix j) false:=fun j hjn hj=>getD_set_ne false (fun e=>hj (hinj _ _ hi hjn e).symm)
 -- what slots read
 have hread : ∀ t : Nat,t ∈ readsOf l o→Dn (cxOf B ρ (hD m.length ix H N listed) w) (tev (S i) (.tmp t)) (a.tmps.getD t undef):=by
  intro t ht
  rcases Nat.lt_or_ge t (S 0).length with htl | htl
  ·have hta : t < a.tmps.size:=by omega
   have hu : a.tmps[t]? = some (a.tmps.getD t undef):=by simp [hta]
   obtain ⟨q1,q2⟩:=hpt t _ hu
   have hslot:=R.slot htl i (by omega)
   rcases hslot with ⟨j,oj,h1,h2,h3,h4⟩ | ⟨h1,h2⟩
   ·have h5 : tev (S i) (.tmp t) = V j:=by simp [tev,List.getD,h4]
    rw [h5]
    obtain ⟨e,he,h6,h7⟩:=((parB_spec hp hi (by omega) ho' h2 h3).1 ht).2
    exact q1 j oj (by omega) h2 h3 (by rw [← h6]; exact hdeps o hoa e he h7)
   ·have h5 : tev (S i) (.tmp t) = (S 0).getD t .any:=by simp [tev,List.getD,h2]
    rw [h5]
    refine q2 fun j oj hj hoj hd=>?_
    have h6:=(parB_spec hp hi hj ho' hoj hd).1 ht
    exact absurd hd (h1 j oj h6.1 hoj)
  ·have hSi:=R.slen i (by omega)
   have : tev (S i) (.tmp t) = .any:=by simp [tev,List.getD,List.getElem?_eq_none (show (S i).length ≤ t by omega)]
   rw [this]
   simp [Dn]
 have hopnd : ∀ x ∈ o.op.operands.toList,Dn (cxOf B ρ (hD m.length ix H N listed) w) (tev (S i) x) (a.eval x):=by
  intro x hx
  cases x with
  | tmp t=>exact hread t (by unfold readsOf; exact List.mem_append_left _ (mem_tmpsOf hx))
  | const v=>exact ofV_dn _ v
  | global g=>simp [tev,Act.eval,Dn]
  | func f=>
   simp only [tev,Act.eval,Dn]
   exact ⟨[],rfl,DnL.nil⟩
 have hHS : HS (H i) (hD m.length ix H N listed):=by
  intro k hk _
  unfold hD
  split
  ·rename_i h0
   exact .inr (R.pre' (Nat.zero_le i) (by omega) h0).symm
  ·split
   ·exact .inr (R.pre' (show i ≤ m.length by omega) (Nat.le_refl _) hk)
   ·exact .inl rfl
 have hids : ∀ j,j < m.length→j ≠ i→(N j).isSome = true→(N i).isSome = true→(H j).length ≠ (H i).length:=by
  intro j hj hji h1 h2 he
  obtain ⟨x1,hx1⟩:=Option.isSome_iff_exists.1 h1
  obtain ⟨x2,hx2⟩:=Option.isSome_iff_exists.1 h2
  rcases Nat.lt_or_ge j i with h3 | h3
  ·have h4:=(R.succ hj hx1).1
   have h5:=R.mono (show j + 1 ≤ i by omega) (by omega)
   omega
  ·have h4:=(R.succ hi hx2).1
   have h5:=R.mono (show i + 1 ≤ j by omega) (by omega)
   omega
 -- the blocks behind the operation
 have hDset : hD m.length ix H N (listed.setIfInBounds (ix i) true) = addf (hD m.length ix H N listed) (H i).length (N i):=by
  funext k
  cases hN : N i with
  | none=>
   simp only [addf]
   unfold hD
   congr 2
   apply propext
   constructor
   ·rintro ⟨j,h1,h2,h3,h4⟩
    by_cases hji : j = i
    ·subst hji; rw [hN] at h3; cases h3
    ·exact ⟨j,h1,by rw [← hset j h1 hji]; exact h2,h3,h4⟩
   ·rintro ⟨j,h1,h2,h3,h4⟩
    by_cases hji : j = i
    ·subst hji; rw [hN] at h3; cases h3
    ·exact ⟨j,h1,by rw [hset j h1 hji]; exact h2,h3,h4⟩
  | some x=>
   simp only [addf]
   obtain ⟨hs1,hs2⟩:=R.succ hi hN
   have hm0:=R.mono (Nat.zero_le i) (by omega)
   by_cases hk : k = (H i).length
   ·subst hk
    rw [updf_same]
    unfold hD
    rw [if_neg (by omega),if_pos ⟨i,hi,getD_set_self hiS,by rw [hN]; rfl,rfl⟩,R.pre' (show i + 1 ≤ m.length by omega) (Nat.le_refl _) (by omega)]
    exact hs2
   ·rw [updf_ne _ _ hk]
    unfold hD
    congr 2
    apply propext
    constructor
    ·rintro ⟨j,h1,h2,h3,h4⟩
     by_cases hji : j = i
     ·subst hji; exact absurd h4.symm hk
     ·exact ⟨j,h1,by rw [← hset j h1 hji]; exact h2,h3,h4⟩
    ·rintro ⟨j,h1,h2,h3,h4⟩
     by_cases hji : j = i
     ·subst hji; exact absurd h4.symm hk
     ·exact ⟨j,h1,by rw [hset j h1 hji]; exact h2,h3,h4⟩
 have hnew : (N i).isSome = true→hD m.length ix H N listed (H i).length = .none:=by
  intro h1
  unfold hD
  have hm0:=R.mono (Nat.zero_le i) (by omega)
  rw [if_neg (by omega),if_neg]
  rintro ⟨j,h2,h3,h4,h5⟩
  by_cases hji : j = i
  ·subst hji; rw [hlf] at h3; cases h3
  ·exact hids j h2 hji h4 h1 h5
 -- what follows the operation
 have hfin : ∀ (u : Value) (w' : World) (ρ' : Nat→Value),Rel B w0 ρ' (addf (hD m.length ix H N listed) (H i).length (N i)) w'→Keeps (cxOf B ρ (hD m.length ix H N listed) w) (cxOf B ρ' (addf (hD m.length ix H N listed) (H i).length (N i)) w')→Below w.heap.size w w' →
   Dn (cxOf B ρ' (addf (hD m.length ix H N listed) (H i).length (N i)) w') (V i) u→∃ ρ',PIb B w0 gh m ix S H V N g ρ' (listed.setIfInBounds (ix i) true) (a.put o.dst u) w'∧Keeps (cxOf B ρ (hD m.length ix H N listed) w) (cxOf B ρ' (hD m.length ix H N (listed.setIfInBounds (ix i) true)) w')∧Below w.heap.size w w':=by
  intro u w' ρ' hR' KK hbl hd
  refine ⟨ρ',?_,by rw [hDset]; exact KK,hbl⟩
  unfold PIb
  rw [hDset]
  refine ⟨hR',DnL.keep KK _ _ hgh,?_,by rw [put_defers]; exact hdf,fun t v ht=>?_⟩
  ·rw [← hsz]
   cases hd' : o.dst with
   | none=>rfl
   | some d=>simp [Act.put]
  ·by_cases hdt : o.dst = some t
   ·have hv : v = u:=by
     rw [hdt] at ht
     simp only [Act.put,Array.getElem?_setIfInBounds_self] at ht
     split at ht
     ·injection ht with ht; exact ht.symm
     ·cases ht
    subst hv
    refine ⟨fun j oj hj hoj hdj _=>?_,fun hall=>?_⟩
    ·by_cases hji : j = i
     ·subst hji; exact hd
     ·exact absurd hdt ((parB_spec hp hi hj ho' hoj hdj).2 (fun e=>hji e.symm))
    ·have:=hall i o hi ho' hdt
     rw [getD_set_self hiS] at this
     cases this
   ·have ht' : a.tmps[t]? = some v:=by
     cases hd' : o.dst with
     | none=>rw [hd'] at ht; exact ht
     | some d=>
      rw [hd'] at ht
      simp only [Act.put] at ht
      rw [Array.getElem?_setIfInBounds_ne (fun e=>hdt (by rw [hd',e]))] at ht
      exact ht
    obtain ⟨q1,q2⟩:=hpt t v ht'
    refine ⟨fun j oj hj hoj hdj hlj=>?_,fun hall=>?_⟩
    ·have hji : j ≠ i:=by
      rintro rfl
      rw [ho'] at hoj
      injection hoj with hoj
      subst hoj
      exact hdt hdj
     exact Dn.keep KK _ _ (q1 j oj hj hoj hdj (by rw [← hset j hj hji]; exact hlj))
    ·refine Dn.keep KK _ _ (q2 fun j oj hj hoj hdj=>?_)
     have hji : j ≠ i:=by
      rintro rfl
      rw [ho'] at hoj
      injection hoj with hoj
      subst hoj
      exact hdt hdj
     have:=hall j oj hj hoj hdj
     rwa [hset j hj hji] at this
 refine wpOp_step hoa fun K hK=>?_
 have hwanted : Region.wanted o (yielded l.toArray a.tmps) = b i:=by
  unfold Wants at hw
  unfold Region.wanted
  cases hg : o.guard with
  | none=>simp only [hg] at hw; exact hw.symm
  | some jc=>
   obtain ⟨j,c⟩:=jc
   simp only [hg] at hw
   obtain ⟨og,d,x,h1,h2,h3,h4,h5⟩:=hw
   have h6:=hread d (by unfold readsOf; simp [hg,h1,h2])
   rw [h4] at h6
   simp only [Dn] at h6
   have hda : d < a.tmps.size:=by rw [hsz,← R.slen i (by omega)]; exact h3
   have h7 : a.tmps[d]? = some x:=by
    rw [Array.getD_eq_getD_getElem?,Array.getElem?_eq_getElem hda] at h6
    rw [Array.getElem?_eq_getElem hda]
    simpa using h6
   have hy : (yielded l.toArray a.tmps j == some c) = isB x c:=by
    cases x <;> simp [yielded,h1,h2,h7,isB]
   simp only [hy,h5]
 rw [hwanted]
 cases hb : b i with
 | true=>
  simp only [if_true]
  exact hst hb hst0 ρ (hD m.length ix H N listed) w a hHS hnew hR hopnd K Q fun u w' ρ' hR' KK hbl hd=>hK _ _ (hfin u w' ρ' hR' KK hbl hd)
 | false=>
  simp only [Bool.false_eq_true,if_false]
  obtain ⟨hV,hN⟩:=hsk hb
  refine hK _ _ (hfin undef w ρ ?_ ?_ (Below.refl _ _) ?_)
  ·rw [hN]; exact hR
  ·rw [hN]; exact .grow (Below.refl _ _)
  ·rw [hV]; simp [Dn]
theorem region_par_core {Q : Exit→Act→World→Prop} {m : List Oper} {ix : Nat→Nat} {S : Nat→List TV} {H : Nat→List LB} {V : Nat→TV} {N : Nat→Option LB} {b st : Nat→Bool} {g : List TV} (R : Runs P B w0 l m S H V N b st) (hp : parB l m ix = true) (hix : ∀ p o,m[p]? = some o→l[ix p]? = some o) (hinj : ∀ p q,p < m.length→q < m.length→ix p = ix q→p = q)
  {listed : Array Bool} {a : Act} {w : World} {i : Nat} (hsize : listed.size = l.length) (hI : PI B w0 gh m ix S H V N g listed a w) (hi : i < m.length) (hl : listed.getD (ix i) true = false) (hst0 : st i = false)
  (hdeps : ∀ o,l.toArray[ix i]? = some o→∀ e ∈ o.after,Region.binds .any e = true→listed.getD e.on false = true) :
  wpOp P l.toArray Q (ix i) (fun a' w'=>PI B w0 gh m ix S H V N g (listed.setIfInBounds (ix i) true) a' w') a w:=by
 obtain ⟨ρ,hI⟩:=hI
 exact wpOp_mono (fun a' w' ⟨ρ',h1,_⟩=>⟨ρ',h1⟩) (region_par_core' R hp hix hinj hsize hI hi hl hst0 hdeps)
def ixI : Nat→Nat:=fun i=>i
def TA (P : Program) (B : Nat) (w0 : World) (gh : List Value) (ops : Array Oper) (σ : St) (Q : Exit→St→Prop) : Prop:=∀ ρ a w,RelS B w0 gh ρ σ a w→wpAny P .any ops (liftQ B w0 gh Q) ops.size (Array.replicate ops.size false) a w.drew
theorem TA.le {ops : Array Oper} {Q : Exit→St→Prop} {σ σ' : St} (h : TA P B w0 gh ops σ' Q) (hl : SLe B w0 gh σ σ') : TA P B w0 gh ops σ Q:=fun ρ a w hr=>by
 obtain ⟨ρ',h'⟩:=hl ρ a w hr
 exact h ρ' a w h'
theorem TA.tw {ops : Array Oper} {Q : Exit→St→Prop} {σ : St} {id : Nat} (hm : P.follows .mixedOrders = true) (h : TA P B w0 gh ops σ Q) : TW P B w0 gh (.region id ops true) σ Q:=fun ρ a w hr=>wp_region_any hm (h ρ a w hr)
theorem TA.par {Q : Exit→St→Prop} {σ : St} (n : Nat) (hm : P.follows .mixedOrders = true)
  (hB : (backB l.toArray && decide (n ≤ l.length) && parB l (l.take n) ixI && (decide (n = l.length) || (decide (n < l.length) && Region.sinkB .any l.toArray n && Region.chainB .any l.toArray n && Region.seqB .any l.toArray (l.length - n) n (headOf n l.length)))) = true)
  (h : TPar P B w0 l (l.take n) σ.s σ.h fun s h=>TL P B w0 gh l.toArray (l.drop n) ⟨s,h,σ.g⟩ Q) : TA P B w0 gh l.toArray σ Q:=fun ρ a w hr=>by
 simp only [Bool.and_eq_true,Bool.or_eq_true,decide_eq_true_eq] at hB
 obtain ⟨⟨⟨hb,hn⟩,hp⟩,htail⟩:=hB
 obtain ⟨m,hmm⟩ : ∃ m,l.take n = m:=⟨_,rfl⟩
 have hlen : m.length = n:=by rw [← hmm]; simp [hn]
 rw [hmm] at h hp
 subst hlen
 obtain ⟨S,H,V,N,b,e1,e2,e3,e4⟩:=runs_of m 0 σ.s σ.h _ h
 have R : Runs P B w0 l m S H V N b (fun _=>false):=⟨fun i o h1 h2=>⟨(e4 i o h1 h2).1,fun h _=>(e4 i o h1 h2).2.1 h,(e4 i o h1 h2).2.2⟩⟩
 have hix : ∀ p o,m[p]? = some o→l[ixI p]? = some o:=fun p o hp=>by
  have : p < m.length:=(List.getElem?_eq_some_iff.1 hp).1
  rw [← hmm,List.getElem?_take_of_lt this] at hp
  exact hp
 have hn' : m.length ≤ l.toArray.size:=by simpa using hn
 show wpAny P .any l.toArray (liftQ B w0 gh Q) l.toArray.size (Array.replicate l.toArray.size false) a w.drew
 have inv0 : HeadInv .any l.toArray m.length (Array.replicate l.toArray.size false):=
  ⟨by simp,fun j oj _ hl=>(by rw [getD_replicate_false] at hl; cases hl),fun t _ ht=>getD_in (by simpa using ht) (getD_replicate_false _ _)⟩
 have hno : ∀ listed,HeadInv .any l.toArray m.length listed→(∃ i,i < m.length∧listed.getD i true = false)→∀ t,m.length ≤ t→t ∉ Region.ready .any l.toArray listed:=by
  rcases htail with hnl | ⟨⟨⟨hlt,hs⟩,hc⟩,hq⟩
  ·intro listed _ _ t ht hr
   obtain ⟨_,o,ho,_⟩:=mem_ready.1 hr
   have:=(Array.getElem?_eq_some_iff.1 ho).1
   simp at this
   omega
  ·intro listed inv ⟨i,hi,hl⟩ t ht
   exact tail_waits hs hc (by simpa using hlt) inv (m.length - i) i rfl hi hl t ht
 have key:=wpAny_inv (P:=P) (ops:=l.toArray) (Q:=liftQ B w0 gh Q) (n:=m.length) hb hn' hno (fun listed a w=>PI B w0 gh m ixI S H V N σ.g listed a w)
  (fun listed a w i inv hI hi hl hd=>region_par_core R hp hix (fun p q _ _ h=>h) (by rw [inv.size]; simp) hI (hi) hl rfl hd)
  (fun listed a' w' inv hall hI=>by
   have hlist:=headOf_eq hn' inv hall
   subst hlist
   have hl : ∀ i,i < m.length→(headOf m.length l.toArray.size).getD i false = true:=fun i hi=>by
    have h1:=hall i hi
    have h2 : i < (headOf m.length l.toArray.size).size:=by rw [inv.size]; omega
    simp only [Array.getD,h2,dite_true] at h1 ⊢
    exact h1
   obtain ⟨ρ',hR,hgh,hsz,hdf,hpt⟩:=hI
   have hDf : hD m.length ixI H N (headOf m.length l.toArray.size) = hf (H m.length):=by
    funext k
    unfold hD
    split
    ·rename_i h0
     exact (R.pre' (Nat.zero_le m.length) (Nat.le_refl _) h0).symm
    ·rename_i h0
     split
     ·rfl
     ·rename_i h1
      rcases Nat.lt_or_ge k (H m.length).length with h2 | h2
      ·exfalso
       -- the step that made k
       have : ∀ d,d ≤ m.length→k < (H d).length→∃ i,i < m.length∧(headOf m.length l.toArray.size).getD i false = true∧(N i).isSome = true∧(H i).length = k:=by
        intro d
        induction d with
        | zero=>intro _ h3; exact absurd h3 h0
        | succ d ih=>
         intro hd h3
         rcases Nat.lt_or_ge k (H d).length with h4 | h4
         ·exact ih (by omega) h4
         ·obtain ⟨_,_,_,_,h5⟩:=R.step d (m[d]'(by omega)) (by omega) (List.getElem?_eq_getElem _)
          cases hN : N d with
          | none=>rw [h5,hN] at h3; simp only [addO] at h3; omega
          | some x=>
           have:=(R.succ (by omega) hN).1
           exact ⟨d,by omega,hl d (by omega),by rw [hN]; rfl,by omega⟩
       exact h1 (this m.length (Nat.le_refl _) h2)
      ·exact (hf_ge h2).symm
   rw [hDf] at hR hgh hpt
   have hRS : RelS B w0 gh ρ' ⟨S m.length,H m.length,σ.g⟩ a' w':=by
    refine ⟨?_,hgh,hR,hdf⟩
    refine dnl_of_point _ _ (by have:=R.slen m.length (Nat.le_refl _); simp [hsz,this]) fun t x u hx hu=>?_
    have hu' : a'.tmps[t]? = some u:=by rw [← Array.getElem?_toList]; exact hu
    obtain ⟨q1,q2⟩:=hpt t u hu'
    have htl : t < (S 0).length:=by
     have h1:=(List.getElem?_eq_some_iff.1 hx).1
     have h2:=R.slen m.length (Nat.le_refl _)
     simp only at h1
     omega
    rcases R.slot htl m.length (Nat.le_refl _) with ⟨j,oj,h1,h2,h3,h4⟩ | ⟨h1,h2⟩
    ·have : x = V j:=by rw [h4] at hx; exact (Option.some.inj hx).symm
     subst this
     exact q1 j oj h1 h2 h3 (hl j h1)
    ·have : x = (S 0).getD t .any:=by
      rw [h2] at hx
      simp [List.getD,hx]
     subst this
     exact q2 fun j oj hj hoj hd=>absurd hd (h1 j oj hj hoj)
   have hT:=e3 ρ' a' w' hRS
   rcases htail with hnl | ⟨⟨⟨hlt,hs⟩,hc⟩,hq⟩
   ·have hdr : l.drop m.length = []:=by rw [hnl]; simp
    rw [hdr] at hT
    have hrd : Region.ready .any l.toArray (headOf m.length l.toArray.size) = []:=by
     rw [List.eq_nil_iff_forall_not_mem]
     intro t hr'
     obtain ⟨hl',o,ho,_⟩:=mem_ready.1 hr'
     have:=(Array.getElem?_eq_some_iff.1 ho).1
     have hlt : t < l.length:=by simpa using this
     have h5:=hl t (by omega)
     have h6 : t < (headOf m.length l.toArray.size).size:=by rw [inv.size]; exact this
     simp only [Array.getD,h6,dite_true] at hl' h5
     rw [hl'] at h5
     cases h5
    rw [show l.toArray.size - m.length = 0 by simp; omega]
    exact ⟨hrd,hT⟩
   ·have:=wpAny_of_seq (P:=P) (ops:=l.toArray) (md:=.any) (Q':=liftQ B w0 gh Q) (l.drop m.length) m.length (headOf m.length l.length) a' w' (fun j=>by simp [List.getElem?_drop]) (by rw [List.length_drop]; exact hq) hT
    simpa using this)
  (leftOf m.length (Array.replicate l.toArray.size false)) _ a w.drew inv0 rfl
  (by
   have hD0 : hD m.length ixI H N (Array.replicate l.toArray.size false) = hf σ.h:=by
    funext k
    unfold hD
    rw [e2]
    split
    ·rfl
    ·rename_i h0
     rw [if_neg,hf_ge (by omega)]
     rintro ⟨i,_,h1,_⟩
     rw [getD_replicate_false] at h1
     cases h1
   refine ⟨ρ,?_⟩
   unfold PIb
   rw [hD0,e1]
   have hb0 : Below w.heap.size w w.drew:=(Below.refl _ _).drew
   have KK : Keeps (cxOf B ρ (hf σ.h) w) (cxOf B ρ (hf σ.h) w.drew):=.grow hb0
   refine ⟨hr.rel.grow hb0,DnL.keep KK _ _ hr.ghost,by have:=hr.slots.len; simpa using this,hr.defers,fun t u hu=>⟨fun i o hi ho hd hl=>(by rw [getD_replicate_false] at hl; cases hl),fun _=>?_⟩⟩
   have hsl:=tev_dn hr.slots (.tmp t)
   have h2 : a.eval (.tmp t) = u:=by simp [Act.eval,Array.getD_eq_getD_getElem?,hu]
   rw [h2] at hsl
   exact Dn.keep KK _ _ hsl)
 have hleft : leftOf m.length (Array.replicate l.toArray.size false) = m.length:=by
  unfold leftOf
  rw [List.filter_eq_self.2]
  ·simp
  ·intro i hi
   rw [List.mem_range] at hi
   have : i < l.length:=by omega
   simp [this]
 rw [hleft,show m.length + (l.toArray.size - m.length) = l.toArray.size by omega] at key
 exact key
end
end Go.Proofs.YtpgfhkbnngjegaaGreatDoor

namespace Go.Proofs.YtpgfhkbnngjegaaGreatDoor
open Go.RowKit
set_option linter.unusedVariables false
set_option linter.unusedSimpArgs false
section
variable {P : Program} {B : Nat} {w0 : World} {gh : List Value} {Q : Exit→St→Prop} {σ : St} {ops : Array Oper} {o : Oper} {rest : List Oper}
def jumpT (l : Nat) (J : St→Prop) (Q : Exit→St→Prop) : Exit→St→Prop
 | .goto l',σ=>l' = l∧J σ
 | e,σ=>Q e σ
theorem TW.scope_l {c rest : Code} (l : Nat) (hf : findLabel c l = some rest) (h : TW P B w0 gh c σ (jumpT l (fun σ=>TW P B w0 gh rest σ (noGotoT Q)) Q)) : TW P B w0 gh (.scope c) σ Q:=fun ρ a w hr=>
 wp_scope_jumps l (fun a w=>∃ σ ρ,TW P B w0 gh rest σ (noGotoT Q)∧RelS B w0 gh ρ σ a w) (fun _ _=>0) hf
  (wp_mono (h ρ a w hr) fun e a w ⟨σ,ρ,h1,h2⟩=>by
   cases e <;> simp only [jumpT,Exit.jump] at h1 ⊢ <;> first | exact ⟨σ,ρ,h1,h2⟩ | exact ⟨h1.1,σ,ρ,h1.2,h2⟩)
  (fun a w ⟨σ,ρ,h1,h2⟩=>wp_mono (h1 ρ a w h2) fun e a w ⟨σ,ρ,h1,h2⟩=>by
   cases e <;> simp only [noGotoT,Exit.jump] at h1 ⊢ <;> first | exact ⟨σ,ρ,h1,h2⟩ | exact h1.elim)
end
section
variable {h : List LB} {q : Option Nat} {x y : Value} {ts rs : List TV} {t r : TV} {b b' : Bool} {els els' : List (List TV)} {i : Nat} {e : TypeId} {sz : Nat}
theorem Out_v : Out h q (.v x) (.v y)↔x = y:=by simp only [Out,TV.v.injEq]; exact eq_comm
theorem Out_agg : Out h q (.agg ts) (.agg rs)↔OutL h q ts rs:=by
 simp only [Out,TV.agg.injEq]
 exact ⟨fun ⟨_,h1,h2⟩=>h1 ▸ h2,fun h1=>⟨_,rfl,h1⟩⟩
theorem Out_tup : Out h q (.tup ts) (.tup rs)↔OutL h q ts rs:=by
 simp only [Out,TV.tup.injEq]
 exact ⟨fun ⟨_,h1,h2⟩=>h1 ▸ h2,fun h1=>⟨_,rfl,h1⟩⟩
theorem OutL_nil : OutL h q [] []↔True:=by simp [OutL]
theorem OutL_cons : OutL h q (t :: ts) (r :: rs)↔Out h q t r∧OutL h q ts rs:=by
 simp only [OutL,List.cons.injEq]
 exact ⟨fun ⟨_,_,⟨h1,h2⟩,h3,h4⟩=>h1 ▸ h2 ▸ ⟨h3,h4⟩,fun h1=>⟨_,_,⟨rfl,rfl⟩,h1.1,h1.2⟩⟩
theorem Out_sl : Out h q (.sl b els) (.sl b' els')↔b = true∧FrLL els∧b' = true∧els = els':=by
 simp only [Out,TV.sl.injEq]
 exact ⟨fun ⟨h1,h2,h3,h4⟩=>⟨h1,h2,h3,h4.symm⟩,fun ⟨h1,h2,h3,h4⟩=>⟨h1,h2,h3,h4.symm⟩⟩
theorem Out_row_osl : Out h q (.row i) (.osl e sz els)↔hf h i = .row e sz els∧FrLL els∧q = some i:=by
 simp only [Out,TV.osl.injEq,reduceCtorEq,and_false,or_false]
 constructor
 ·rintro ⟨e',sz',els',h1,h2,h3,rfl,rfl,rfl⟩
  exact ⟨h1,h2,h3⟩
 ·rintro ⟨h1,h2,h3⟩
  exact ⟨_,_,_,h1,h2,h3,rfl,rfl,rfl⟩
theorem Out_nil_osl : Out h q .nil_ (.osl e sz els)↔q = none∧els = []:=by
 simp only [Out,reduceCtorEq,TV.osl.injEq,false_or]
 constructor
 ·rintro ⟨h1,e',sz',rfl,rfl,rfl⟩
  exact ⟨h1,rfl⟩
 ·rintro ⟨h1,rfl⟩
  exact ⟨h1,_,_,rfl,rfl,rfl⟩
theorem Out_nil_sl : Out h q .nil_ (.sl b els)↔b = true∧els = []:=by
 simp only [Out,reduceCtorEq,TV.sl.injEq,false_or,and_false,exists_false,or_false]
theorem Out_nil_nil : Out h q .nil_ .nil_↔True:=by simp [Out]
end
section
variable {P : Program} {B : Nat} {w0 : World} {gh : List Value} {Q : Exit→St→Prop} {σ : St}
theorem SLe.back (n : Nat) {s : List TV} {h : List LB} {g : List TV} (hs : LeL (kpL (low n) σ.s) s) (hh : LeB ((σ.h.take n).map (LB.kp (low n))) h) (hg : LeL (kpL (low n) σ.g) g) : SLe B w0 gh σ ⟨s,h,g⟩:=(SLe.cut n).trans (.of hs hh hg)
end
end Go.Proofs.YtpgfhkbnngjegaaGreatDoor
