/- A local row that is written no more is a slice that is only read. No condition. -/
import Derived.Test.YtpgfhkbnngjegaaGreatDoorT10
namespace Go.Proofs.YtpgfhkbnngjegaaGreatDoor
open Go.RowKit
set_option linter.unusedVariables false
set_option linter.unusedSimpArgs false
def TPu (P : Program) (B : Nat) (w0 : World) (i : Nat) : List Oper→List TV→(List TV→Prop)→Prop
  | [],s,K=>K s
  | o :: rest,s,K=>∃ tv,o.guard = none∧TStep P B w0 [] s o tv none∧(∀ x ∈ o.op.operands.toList,kp (bar i) (tev s x) = tev s x)∧kp (bar i) tv = tv∧TPu P B w0 i rest (putO s o.dst tv) K
theorem TStep.weak {P : Program} {B : Nat} {w0 : World} {h : List LB} {s : List TV} {o : Oper} {tv : TV} (H : TStep P B w0 [] s o tv none) : TStep P B w0 h s o tv none:=by
  intro ρ h' w a _ _ R hx K Q hK
  exact H ρ h' w a (fun i hi=>absurd hi (by simp)) (fun h=>by cases h) R hx K Q fun u w' ρ' R' KK hb hd=>hK u w' ρ' R' KK hb hd
def covB (l : List Oper) (n : Nat) : Bool:=(List.range n).all fun i=>(List.range (n + 1)).any fun j=>decide (i < j) && match l[j]? with
  | some o=>o.after.any fun e=>decide (e.on = i) && Region.binds .any e
  | none=>false
theorem covB_spec {l : List Oper} {n : Nat} (h : covB l n = true) {i : Nat} (hi : i < n) : ∃ j o,i < j∧j ≤ n∧l[j]? = some o∧∃ e ∈ o.after,e.on = i∧Region.binds .any e = true:=by
  have h1:=List.all_eq_true.1 h i (List.mem_range.2 hi)
  obtain ⟨j,hj,h2⟩:=List.any_eq_true.1 h1
  simp only [Bool.and_eq_true,decide_eq_true_eq] at h2
  obtain ⟨h3,h4⟩:=h2
  split at h4
  · rename_i o ho
    obtain ⟨k,hk,h6⟩:=Array.any_eq_true.1 h4
    simp only [Bool.and_eq_true,decide_eq_true_eq] at h6
    have:=List.mem_range.1 hj
    exact ⟨j,o,h3,by omega,ho,_,Array.getElem_mem hk,h6.1,h6.2⟩
  · cases h4
theorem cov_listed {l : List Oper} {n N : Nat} (h : covB l n = true) {listed : Array Bool} (inv : HeadInv .any l.toArray N listed) (hn : ∀ o,l[n]? = some o→∀ e ∈ o.after,Region.binds .any e = true→listed.getD e.on false = true) : ∀ d i,i + d = n→0 < d→listed.getD i false = true:=by
  intro d
  induction d using Nat.strongRecOn with
  | _ d ih=>
    intro i hid hd
    obtain ⟨j,o,h1,h2,h3,e,h4,h5,h6⟩:=covB_spec h (show i < n by omega)
    rcases Nat.lt_or_ge j n with h7 | h7
    · have:=ih (n - j) (by omega) j (by omega) (by omega)
      rw [← h5]
      exact inv.closed j o (by simpa using h3) this e h4 h6
    · have : j = n:=by omega
      subst this
      rw [← h5]
      exact hn o h3 e h4 h6
def ixA (n : Nat) : Nat→Nat:=fun p=>if p < n then p else p + 1
def appB (l : List Oper) (n k da : Nat) : Bool:=
  let m:=l.take n ++ (l.drop (n + 1)).take k
  backB l.toArray && decide (n + 1 + k ≤ l.length) && parB l m (ixA n) && covB l n &&
  (m.all fun o=>!(readsOf l o).contains da && !(o.dst == some da)) &&
  (match l[n]? with
    | some o=>o.dst == some da && (tmpsOf o.op.operands.toList).all fun t=>((l.drop (n + 1)).take k).all fun p=>!(p.dst == some t)
    | none=>false) &&
  (decide (n + 1 + k = l.length) || (decide (n + 1 + k < l.length) && Region.sinkB .any l.toArray (n + 1 + k) && Region.chainB .any l.toArray (n + 1 + k) && Region.seqB .any l.toArray (l.length - (n + 1 + k)) (n + 1 + k) (headOf (n + 1 + k) l.length)))
section
variable {P : Program} {B : Nat} {w0 : World} {gh : List Value} {l : List Oper}
theorem kpL_getD (p : Nat→Bool) : ∀ (s : List TV) (t : Nat),(kpL p s).getD t .any = kp p (s.getD t .any)
  | [],t=>by simp [kpL,kp]
  | x :: s,0=>by simp [kpL]
  | x :: s,t + 1=>by simpa [kpL] using kpL_getD p s t
theorem kpL_len (p : Nat→Bool) : ∀ s : List TV,(kpL p s).length = s.length
  | []=>rfl
  | x :: s=>by simp [kpL,kpL_len p s]
theorem upon_mono2 {o : Oper} {a : Act} {w : World} {K K' : Act→World→Prop} {Q Q' : Exit→Act→World→Prop} (h : ∀ a w,K a w→K' a w) (hq : ∀ e a w,e ≠ .normal→Q e a w→Q' e a w) (hh : o.wp P a w K Q) : o.wp P a w K' Q':=by
  unfold Oper.wp at *
  generalize (execOp a.eval o).run P w = r at *
  cases r with
  | halt x w'=>cases x <;> simp only [Oper.upon] at hh ⊢ <;> first | exact hq _ _ _ (by simp) hh | exact hh
  | ok x w'=>
    cases x <;> simp only [Oper.upon] at hh ⊢ <;> first
      | exact h _ _ hh
      | exact hh
      | (refine hh.mono ?_
         intro e w'' he
         cases e <;> first | exact h _ _ he | exact hq _ _ _ (by simp) he | (obtain ⟨a1,w1,h1⟩:=he; exact ⟨a1,w1,hq _ _ _ (by simp) h1⟩))
      | (refine hh.mono ?_
         intro v w'' he
         exact h _ _ he)
theorem tpu_facts {i : Nat} : ∀ (rest : List Oper) (s : List TV) (K : List TV→Prop),TPu P B w0 i rest s K →
    ∃ (S : Nat→List TV) (V : Nat→TV),S 0 = s∧K (S rest.length)∧∀ p o,rest[p]? = some o→o.guard = none∧TStep P B w0 [] (S p) o (V p) none∧(∀ x ∈ o.op.operands.toList,kp (bar i) (tev (S p) x) = tev (S p) x)∧kp (bar i) (V p) = V p∧S (p + 1) = putO (S p) o.dst (V p)
  | [],s,K,hp=>⟨fun _=>s,fun _=>.any,rfl,hp,fun p o h=>(by simp at h)⟩
  | o :: rest,s,K,⟨tv,h1,h2,h3,h4,h5⟩=>by
    obtain ⟨S,V,e1,e2,e3⟩:=tpu_facts rest _ K h5
    refine ⟨fun p=>match p with | 0=>s | p + 1=>S p,fun p=>match p with | 0=>tv | p + 1=>V p,rfl,e2,fun p o' ho=>?_⟩
    cases p with
    | zero=>
      simp only [List.getElem?_cons_zero,Option.some.injEq] at ho
      subst ho
      exact ⟨h1,h2,h3,h4,e1⟩
    | succ p=>
      simp only [List.getElem?_cons_succ] at ho
      exact e3 p o' ho
theorem runs_join {m2 : List Oper} {i : Nat} {K : List TV→List LB→Prop} : ∀ (m1 : List Oper) (s : List TV) (h : List LB),(TPar P B w0 l m1 s h fun s h=>TPu P B w0 i m2 s fun s=>K s h) →
    ∃ (S : Nat→List TV) (H : Nat→List LB) (V : Nat→TV) (N : Nat→Option LB) (b : Nat→Bool),Runs P B w0 l (m1 ++ m2) S H V N b (fun _=>false)∧S 0 = s∧H 0 = h∧K (S (m1 ++ m2).length) (H (m1 ++ m2).length) ∧
      ∀ p o,m1.length ≤ p→(m1 ++ m2)[p]? = some o→o.guard = none∧TStep P B w0 [] (S p) o (V p) none∧(∀ x ∈ o.op.operands.toList,kp (bar i) (tev (S p) x) = tev (S p) x)∧kp (bar i) (V p) = V p∧N p = none∧b p = true
  | [],s,h,hp=>by
    obtain ⟨S,V,e1,e2,e3⟩:=tpu_facts m2 s _ hp
    refine ⟨S,fun _=>h,V,fun _=>none,fun _=>true,⟨fun p o hpl ho=>?_⟩,e1,rfl,by simpa using e2,fun p o _ ho=>?_⟩
    · obtain ⟨h1,h2,h3,h4,h5⟩:=e3 p o (by simpa using ho)
      exact ⟨by simp [Wants,h1],fun _ _=>h2.weak,fun h=>(by cases h),h5,rfl⟩
    · obtain ⟨h1,h2,h3,h4,h5⟩:=e3 p o (by simpa using ho)
      exact ⟨h1,h2,h3,h4,rfl,rfl⟩
  | o :: m1,s,h,⟨tv,new,b0,h1,h2,h3,h4⟩=>by
    obtain ⟨S,H,V,N,b,e1,e2,e3,e4,e5⟩:=runs_join m1 _ _ h4
    refine ⟨fun i=>match i with | 0=>s | i + 1=>S i,fun i=>match i with | 0=>h | i + 1=>H i,fun i=>match i with | 0=>tv | i + 1=>V i,fun i=>match i with | 0=>new | i + 1=>N i,fun i=>match i with | 0=>b0 | i + 1=>b i,⟨fun p o' hpl ho=>?_⟩,rfl,rfl,e4,fun p o' hpl ho=>?_⟩
    · cases p with
      | zero=>
        simp only [List.cons_append,List.getElem?_cons_zero,Option.some.injEq] at ho
        subst ho
        exact ⟨h1,fun hb _=>h2 hb,h3,e2,e3⟩
      | succ p=>
        simp only [List.cons_append,List.getElem?_cons_succ] at ho
        exact e1.step p o' (by simpa using hpl) ho
    · cases p with
      | zero=>simp at hpl
      | succ p=>
        simp only [List.cons_append,List.getElem?_cons_succ] at ho
        exact e5 p o' (by simpa using hpl) ho
def holes (m : List Oper) (n : Nat) (ix : Nat→Nat) (listed : Array Bool) (s : List TV) : List TV:=
  (List.range s.length).map fun t=>if ∃ p,p < m.length∧(n ≤ p∧(m[p]?).bind (·.dst) = some t∧listed.getD (ix p) false = false) then .any else s.getD t .any
theorem holes_len (m : List Oper) (n : Nat) (ix : Nat→Nat) (listed : Array Bool) (s : List TV) : (holes m n ix listed s).length = s.length:=by simp [holes]
theorem holes_at {m : List Oper} {n : Nat} {ix : Nat→Nat} {listed : Array Bool} {s : List TV} {t : Nat} (h : ∀ p o,n ≤ p→m[p]? = some o→o.dst = some t→listed.getD (ix p) false = true) : (holes m n ix listed s).getD t .any = s.getD t .any:=by
  unfold holes
  have hno : ¬ ∃ p,p < m.length∧(n ≤ p∧(m[p]?).bind (·.dst) = some t∧listed.getD (ix p) false = false):=by
    rintro ⟨p,h0,h1,h2,h3⟩
    cases hm : m[p]? with
    | none=>rw [hm] at h2; cases h2
    | some o=>
      rw [hm] at h2
      rw [h p o h1 hm h2] at h3
      cases h3
  rcases Nat.lt_or_ge t s.length with ht | ht
  · rw [List.getD_eq_getElem?_getD,List.getElem?_map,List.getElem?_range ht]
    simp only [Option.map_some,Option.getD_some]
    rw [if_neg hno]
  · simp [List.getD,List.getElem?_eq_none ht,ht]
theorem holes_get {m : List Oper} {n : Nat} {ix : Nat→Nat} {listed : Array Bool} {s : List TV} {t : Nat} {x : TV} (h : (holes m n ix listed s)[t]? = some x) : x = .any∨((∀ p o,n ≤ p→m[p]? = some o→o.dst = some t→listed.getD (ix p) false = true)∧s[t]? = some x):=by
  unfold holes at h
  rw [List.getElem?_map,Option.map_eq_some_iff] at h
  obtain ⟨t',h1,h2⟩:=h
  have ht:=(List.getElem?_eq_some_iff.1 h1).1
  have h3:=(List.getElem?_eq_some_iff.1 h1).2
  simp only [List.getElem_range] at h3
  subst h3
  simp only [List.length_range] at ht
  split at h2
  · exact .inl h2.symm
  · rename_i hno
    refine .inr ⟨fun p o hp ho hd=>?_,?_⟩
    · cases hl : listed.getD (ix p) false with
      | true=>rfl
      | false=>exact absurd ⟨p,(List.getElem?_eq_some_iff.1 ho).1,hp,by rw [ho]; exact hd,hl⟩ hno
    · rw [← h2]
      simp [List.getD,ht]
theorem tev_holes {m : List Oper} {n : Nat} {ix : Nat→Nat} {listed : Array Bool} {s : List TV} {x : Operand} (h : ∀ t,x = .tmp t→∀ p o,n ≤ p→m[p]? = some o→o.dst = some t→listed.getD (ix p) false = true) : tev (holes m n ix listed s) x = tev s x:=by
  cases x with
  | tmp t=>exact holes_at (h t rfl)
  | const v=>rfl
  | global g=>rfl
  | func f=>rfl
structure PB (B : Nat) (w0 : World) (gh : List Value) (m : List Oper) (n : Nat) (ix : Nat→Nat) (s : List TV) (h : List LB) (g : List TV) (listed : Array Bool) (a : Act) (w : World) : Prop where
  ex : ∃ ρ,Rel B w0 ρ (hf h) w∧DnL (cxOf B ρ (hf h) w) g gh∧a.tmps.size = s.length∧a.defers = [] ∧
    ∀ (t : Nat) (u : Value),a.tmps[t]? = some u→(∀ p o,n ≤ p→m[p]? = some o→o.dst = some t→listed.getD (ix p) false = true)→Dn (cxOf B ρ (hf h) w) (s.getD t .any) u
end
end Go.Proofs.YtpgfhkbnngjegaaGreatDoor

namespace Go.Proofs.YtpgfhkbnngjegaaGreatDoor
open Go.RowKit
set_option linter.unusedVariables false
set_option linter.unusedSimpArgs false
/- In place of the row j stands x; what points into it is forgotten. -/
mutual
def fz (j : Nat) (x : TV) : TV→TV
 | .agg ts=>.agg (fzL j x ts)
 | .tup ts=>.tup (fzL j x ts)
 | .fn f ts=>.fn f (fzL j x ts)
 | .ptr i off=>if i = j then .any else .ptr i off
 | .row i=>if i = j then x else .row i
 | .sl b els=>.sl b (fzLL j x els)
 | .eptr ts=>.eptr (fzL j x ts)
 | .osl e sz els=>.osl e sz (fzLL j x els)
 | .z i t=>if i = j then .any else .z i t
 | .win i k sz=>if i = j then .any else .win i k sz
 | .any=>.any
 | .nil_=>.nil_
 | .v u=>.v u
def fzL (j : Nat) (x : TV) : List TV→List TV
 | []=>[]
 | t :: ts=>fz j x t :: fzL j x ts
def fzLL (j : Nat) (x : TV) : List (List TV)→List (List TV)
 | []=>[]
 | t :: ts=>fzL j x t :: fzLL j x ts
end
theorem fzLL_len (j : Nat) (x : TV) : ∀ els : List (List TV),(fzLL j x els).length = els.length
 | []=>rfl
 | t :: ts=>by simp [fzLL,fzLL_len j x ts]
theorem fzLL_nil {j : Nat} {x : TV} {els : List (List TV)} (h : fzLL j x els ≠ []) : els ≠ []:=by
 rintro rfl
 exact h rfl
section
variable {C : Cx} {j : Nat} {x : TV}
mutual
theorem Dn.fz {C' : Cx} (K : Keeps (C.less (bar j)) C') (hx : C.pres j→Dn C' x (C.ρ j)) : ∀ (t : TV) (u : Value),Dn C t u→Dn C' (fz j x t) u
 | .any,u,h=>by simp [Dn,Go.Proofs.YtpgfhkbnngjegaaGreatDoor.fz]
 | .v _,u,h=>by simp only [Dn,Go.Proofs.YtpgfhkbnngjegaaGreatDoor.fz] at h ⊢; exact h
 | .nil_,u,h=>by simp only [Dn,Go.Proofs.YtpgfhkbnngjegaaGreatDoor.fz] at h ⊢; exact h
 | .agg ts,u,h=>by
  simp only [Dn,Go.Proofs.YtpgfhkbnngjegaaGreatDoor.fz] at h ⊢
  obtain ⟨vs,h1,h2⟩:=h
  exact ⟨vs,h1,DnL.fz K hx ts vs h2⟩
 | .tup ts,u,h=>by
  simp only [Dn,Go.Proofs.YtpgfhkbnngjegaaGreatDoor.fz] at h ⊢
  obtain ⟨vs,h1,h2⟩:=h
  exact ⟨vs,h1,DnL.fz K hx ts vs h2⟩
 | .fn f ts,u,h=>by
  simp only [Dn,Go.Proofs.YtpgfhkbnngjegaaGreatDoor.fz] at h ⊢
  obtain ⟨vs,h1,h2⟩:=h
  exact ⟨vs,h1,DnL.fz K hx ts vs h2⟩
 | .ptr i off,u,h=>by
  simp only [Go.Proofs.YtpgfhkbnngjegaaGreatDoor.fz]
  by_cases hij : i = j
  ·subst hij; simp [Dn]
  ·rw [if_neg hij]
   have h1 : Dn (C.less (bar j)) (.ptr i off) u:=by
    simp only [Dn] at h ⊢
    exact ⟨⟨h.1,by simp [bar,hij]⟩,h.2⟩
   exact Dn.keep K _ _ h1
 | .row i,u,h=>by
  simp only [Go.Proofs.YtpgfhkbnngjegaaGreatDoor.fz]
  by_cases hij : i = j
  ·subst hij
   simp only [Dn] at h
   rw [if_pos rfl,h.2]
   exact hx h.1
  ·rw [if_neg hij]
   have h1 : Dn (C.less (bar j)) (.row i) u:=by
    simp only [Dn] at h ⊢
    exact ⟨⟨h.1,by simp [bar,hij]⟩,h.2⟩
   exact Dn.keep K _ _ h1
 | .sl b els,u,h=>by
  simp only [Dn,Go.Proofs.YtpgfhkbnngjegaaGreatDoor.fz] at h ⊢
  obtain ⟨A,c,css,sz,h1,h2,h3,h4,h5,h6,h7⟩:=h
  rw [fzLL_len]
  refine ⟨A,c,css,sz,h1,h2,h3,fun ha=>by rw [h4 ha]; rfl,h5,DnLL.fz K hx els css h6,fun ad ha=>?_⟩
  obtain ⟨h8,h9⟩:=h7 ad ha
  refine ⟨fun hne=>?_,fun i y hy=>?_⟩
  ·obtain ⟨h10,h11,h12⟩:=h8 (fzLL_nil hne)
   obtain ⟨h13,h14,h15⟩:=K.blk _ h10 h11
   exact ⟨h14,h15,fun hb=>⟨Nat.le_trans K.base (h12 hb).1,by unfold Unf; rw [h13]; exact (h12 hb).2⟩⟩
  ·have hne : els ≠ []:=by
    rintro rfl
    simp only [DnLL] at h6
    subst h6
    simp at hy
   obtain ⟨h10,h11,h12⟩:=h8 hne
   exact cell_keep (by rw [addr_block]; exact (K.blk _ h10 h11).1) (h9 i y hy)
 | .eptr ts,u,h=>by
  simp only [Dn,Go.Proofs.YtpgfhkbnngjegaaGreatDoor.fz] at h ⊢
  obtain ⟨ad,vs,h1,h2,h3,h4,h5⟩:=h
  obtain ⟨h13,h14,h15⟩:=K.blk _ h2 h3
  exact ⟨ad,vs,h1,h14,h15,DnL.fz K hx ts vs h4,fun i y hy=>cell_keep (by rw [addr_block]; exact h13) (h5 i y hy)⟩
 | .osl e sz els,u,h=>by
  simp only [Dn,Go.Proofs.YtpgfhkbnngjegaaGreatDoor.fz] at h ⊢
  obtain ⟨A,c,css,h1,h2,h3,h4⟩:=h
  rw [fzLL_len]
  exact ⟨A,c,css,h1,K.own _ _ _ _ _ h2,h3,DnLL.fz K hx els css h4⟩
 | .z i t,u,h=>by
  simp only [Go.Proofs.YtpgfhkbnngjegaaGreatDoor.fz]
  by_cases hij : i = j
  ·subst hij; simp [Dn]
  ·rw [if_neg hij]
   have h1 : Dn (C.less (bar j)) (.z i t) u:=by
    simp only [Dn] at h ⊢
    exact ⟨⟨h.1,by simp [bar,hij]⟩,h.2⟩
   exact Dn.keep K _ _ h1
 | .win i k sz,u,h=>by
  simp only [Go.Proofs.YtpgfhkbnngjegaaGreatDoor.fz]
  by_cases hij : i = j
  ·subst hij; simp [Dn]
  ·rw [if_neg hij]
   have h1 : Dn (C.less (bar j)) (.win i k sz) u:=by
    simp only [Dn] at h ⊢
    exact ⟨⟨h.1,by simp [bar,hij]⟩,h.2⟩
   exact Dn.keep K _ _ h1
theorem DnL.fz {C' : Cx} (K : Keeps (C.less (bar j)) C') (hx : C.pres j→Dn C' x (C.ρ j)) : ∀ (ts : List TV) (us : List Value),DnL C ts us→DnL C' (fzL j x ts) us
 | [],us,h=>by simp only [DnL,fzL] at h ⊢; exact h
 | t :: ts,us,h=>by
  simp only [DnL,fzL] at h ⊢
  obtain ⟨u,us',h1,h2,h3⟩:=h
  exact ⟨u,us',h1,Dn.fz K hx t u h2,DnL.fz K hx ts us' h3⟩
theorem DnLL.fz {C' : Cx} (K : Keeps (C.less (bar j)) C') (hx : C.pres j→Dn C' x (C.ρ j)) : ∀ (ts : List (List TV)) (us : List (List Value)),DnLL C ts us→DnLL C' (fzLL j x ts) us
 | [],us,h=>by simp only [DnLL,fzLL] at h ⊢; exact h
 | t :: ts,us,h=>by
  simp only [DnLL,fzLL] at h ⊢
  obtain ⟨u,us',h1,h2,h3⟩:=h
  exact ⟨u,us',h1,DnL.fz K hx t u h2,DnLL.fz K hx ts us' h3⟩
end
end
def LB.fz (j : Nat) (x : TV) : LB→LB
 | .none=>.none
 | .cells t cs=>.cells t (fzL j x cs)
 | .row e sz els=>.row e sz (fzLL j x els)
 | .ext y=>.ext y
theorem LB.fz_ext {j : Nat} {x : TV} {b : LB} {y : Ext} (h : b.fz j x = .ext y) : b = .ext y:=by cases b <;> cases h <;> rfl
theorem LB.fz_here {j : Nat} {x : TV} {b : LB} : (b.fz j x).here↔b.here:=by cases b <;> simp [LB.fz,LB.here]
section
variable {P : Program} {B : Nat} {w0 : World} {gh : List Value} {Q : Exit→St→Prop} {σ : St} {ops : Array Oper} {o : Oper} {rest : List Oper}
theorem SLe.freeze (j : Nat) {e : TypeId} {sz : Nat} {els : List (List TV)} (hj : hf σ.h j = .row e sz els) :
  SLe B w0 gh σ ⟨fzL j (.sl true (kpLL (bar j) els)) σ.s,(σ.h.map (LB.fz j (.sl true (kpLL (bar j) els)))).set j .none,fzL j (.sl true (kpLL (bar j) els)) σ.g⟩:=fun ρ a w hr=>by
 have R:=hr.rel
 have hjl : j < σ.h.length:=hf_lt hj (by simp)
 have ee : ∀ i,hf ((σ.h.map (LB.fz j (.sl true (kpLL (bar j) els)))).set j .none) i = if i = j then .none else (hf σ.h i).fz j (.sl true (kpLL (bar j) els)):=fun i=>by
  unfold hf
  rw [List.getD_eq_getElem?_getD,List.getD_eq_getElem?_getD,List.getElem?_set]
  by_cases hij : i = j
  ·subst hij
   simp [hjl]
  ·rw [if_neg (fun h=>hij h.symm),if_neg hij,List.getElem?_map]
   cases σ.h[i]? <;> simp [LB.fz]
 have hhere : ∀ i,(hf ((σ.h.map (LB.fz j (.sl true (kpLL (bar j) els)))).set j .none) i).here↔i ≠ j∧(hf σ.h i).here:=fun i=>by
  rw [ee]
  split
  ·rename_i hij
   exact ⟨fun h=>h.elim,fun h=>absurd hij h.1⟩
  ·rename_i hij
   rw [LB.fz_here]
   exact ⟨fun h=>⟨hij,h⟩,fun h=>h.2⟩
 have hext : ∀ i y,hf ((σ.h.map (LB.fz j (.sl true (kpLL (bar j) els)))).set j .none) i = .ext y→hf σ.h i = .ext y:=fun i y he=>by
  rw [ee] at he
  split at he
  ·cases he
  ·exact LB.fz_ext he
 generalize hH : hf ((σ.h.map (LB.fz j (.sl true (kpLL (bar j) els)))).set j .none) = H at ee hhere hext
 have hjh : (hf σ.h j).here:=by rw [hj]; trivial
 have KK : Keeps ((cxOf B ρ (hf σ.h) w).less (bar j)) (cxOf B ρ H w):=⟨fun k hS hk=>⟨rfl,⟨fun i hi=>hS.1 i ((hhere i).1 hi).2,ps_no hext hS.2⟩,hk⟩,Nat.le_refl _,fun i hi=>⟨(hhere i).2 ⟨by have:=hi.2; simpa [bar] using this,hi.1⟩,rfl⟩,fun _ _ _ _ _ h=>h,fun i k hi hz hk=>⟨rfl,Z_of (B:=B) (w:=w) (fun j hj=>((hhere j).1 hj).2) hext (fun x ex=>by
  have hij : i ≠ j:=by have:=hi.2; simpa [bar] using this
  rw [ee,if_neg hij,ex]; rfl) hz,hk⟩⟩
 have hx : (cxOf B ρ (hf σ.h) w).pres j→Dn (cxOf B ρ H w) (.sl true (kpLL (bar j) els)) ((cxOf B ρ (hf σ.h) w).ρ j):=fun _=>by
  obtain ⟨A,c,css,r1,r2,r3,r4⟩:=R.row j _ _ _ hj
  show Dn _ _ (ρ j)
  rw [r1] at r2 ⊢
  rw [← kpLL_len (bar j) els] at r2 ⊢
  refine row_sl (C:=cxOf B ρ H w) r2 r3 (DnLL.keep KK _ _ (DnLL.kp (bar j) _ _ r4)) (fun ad ha=>⟨fun i hi hb=>?_,fun i hp=>?_⟩) (fun _=>Nat.le_refl _)
  ·exact ((hhere i).1 hi).1 (R.sep i j _ ((hhere i).1 hi).2 hjh hb (by rw [r1,ha]; rfl))
  ·obtain ⟨y,e1,h1⟩:=LB.ps_of hp
   exact (R.ext i y (hext i y e1)).apart j _ hjh (by rw [r1,ha]; rfl) h1
 refine ⟨ρ,?_,?_,?_,hr.defers⟩
 ·rw [hH]; exact DnL.fz KK hx _ _ hr.slots
 ·rw [hH]; exact DnL.fz KK hx _ _ hr.ghost
 ·rw [hH]
  refine ⟨R.below,R.gl0,R.size,fun i t cs hi=>?_,fun i e' sz' els' hi=>?_,fun i k g hi hk=>R.sep i k g ((hhere i).1 hi).2 ((hhere k).1 hk).2,fun i g hi=>R.inj i g ((hhere i).1 hi).2,R.oth,R.ext_of (fun i hi=>((hhere i).1 hi).2) hext⟩
  ·rw [ee] at hi
   split at hi
   ·cases hi
   ·cases hh : hf σ.h i with
    | none=>rw [hh] at hi; cases hi
    | ext _=>rw [hh] at hi; cases hi
    | row _ _ _=>rw [hh] at hi; cases hi
    | cells t' cs'=>
     rw [hh] at hi
     simp only [LB.fz,LB.cells.injEq] at hi
     obtain ⟨rfl,rfl⟩:=hi
     obtain ⟨g,vs,r1,r2,r3,r4⟩:=R.blk i _ _ hh
     exact ⟨g,vs,r1,r2,r3,DnL.fz KK hx _ _ r4⟩
  ·rw [ee] at hi
   split at hi
   ·cases hi
   ·cases hh : hf σ.h i with
    | none=>rw [hh] at hi; cases hi
    | ext _=>rw [hh] at hi; cases hi
    | cells _ _=>rw [hh] at hi; cases hi
    | row e2 sz2 els2=>
     rw [hh] at hi
     simp only [LB.fz,LB.row.injEq] at hi
     obtain ⟨rfl,rfl,rfl⟩:=hi
     obtain ⟨A,c,css,r1,r2,r3,r4⟩:=R.row i _ _ _ hh
     rw [fzLL_len]
     exact ⟨A,c,css,r1,r2,r3,DnLL.fz KK hx _ _ r4⟩
theorem TL.le {l : List Oper} {σ' : St} (hl : SLe B w0 gh σ σ') (h : TL P B w0 gh ops l σ' Q) : TL P B w0 gh ops l σ Q:=fun ρ a w hr=>by
 obtain ⟨ρ',h'⟩:=hl ρ a w hr
 exact h ρ' a w h'
end
end Go.Proofs.YtpgfhkbnngjegaaGreatDoor
