/- Words that every walk of this seat uses: lists of integers as cells, what is equal, what a walk ends with. No condition. -/
import Derived.Below
import Derived.Laws.OwnMore
import Derived.Deep.AppendLies
import Derived.Deep.Draws
import Derived.Laws.Rows
import Derived.Maps.AppendAt
import Derived.Laws.CopyOwn
import Derived.OwnWalk
import Derived.BigFrame
import Derived.Test.YtpgfhkbnngjegaaGreatDoorRows
import Derived.WalkKit
import Derived.BigQuiet
import Derived.WalkLawsBesides
import Derived.Lib.Hide
import Derived.WalkSpells
import Derived.Deep.QuietTactic
import Derived.Deep.RegionHeld3
namespace Go.Proofs.YtpgfhkbnngjegaaGreatDoor
open Go.RowKit
def Unf (w : World) (k : Nat) : Prop:=∃ cur ty,w.heap[k]? = some (.cells cur ty (0,0))
theorem addr_block (a : Addr) (n : Nat) : (a.add n).block = a.block:=by unfold Addr.add; split <;> rfl
theorem addr_add (a : Addr) (i j : Nat) : (a.add i).add j = a.add (i + j):=by
 unfold Addr.add
 by_cases hi : i = 0 <;> by_cases hj : j = 0 <;> simp [hi,hj,Nat.add_assoc]
def Sees (w : World) (e : Option TypeId) (size : Nat) (A : Option Addr) (n : Nat) (xs : List Value) : Prop:=
 xs.length = n * size∧(A = none→n = 0)∧∀ ad,A = some ad →
  (0 < n→∃ cur t fz,w.heap[ad.block]? = some (.cells cur t fz)∧∀ t',e = some t'→t = t')∧∀ j u,xs[j]? = some u→w.cell? (ad.add j) = some u
section
variable {w w' : World} {e : Option TypeId} {size n : Nat} {A : Option Addr} {xs : List Value}
theorem Sees.nil (w : World) (e : Option TypeId) (size : Nat) : Sees w e size none 0 []:=⟨by simp,fun _=>rfl,fun _ h=>by cases h⟩
theorem Sees.empty (h : Sees w e size A 0 xs) : xs = []:=List.eq_nil_of_length_eq_zero (by simpa using h.1)
theorem Sees.addr (h : Sees w e size A n xs) (hn : 0 < n) : ∃ ad,A = some ad:=by
 cases A with
 | none=>exact absurd (h.2.1 rfl) (by omega)
 | some ad=>exact ⟨ad,rfl⟩
theorem Sees.lt (h : Sees w e size A n xs) (hn : 0 < n) {ad : Addr} (ha : A = some ad) : ad.block < w.heap.size:=by
 obtain ⟨cur,t,fz,hc,_⟩:=(h.2.2 ad ha).1 hn
 exact (Array.getElem?_eq_some_iff.1 hc).1
theorem Sees.keep (h : Sees w e size A n xs) (hk : ∀ k,k < w.heap.size→(∃ ad,A = some ad∧k = ad.block∧0 < n)→w'.heap[k]? = w.heap[k]?) : Sees w' e size A n xs:=by
 refine ⟨h.1,h.2.1,fun ad ha=>?_⟩
 rcases Nat.eq_zero_or_pos n with h0 | h0
 ·subst h0
  have hx:=h.empty
  subst hx
  exact ⟨fun hh=>absurd hh (by omega),fun j u hu=>by simp at hu⟩
 ·have hb:=hk ad.block (h.lt h0 ha) ⟨ad,ha,rfl,h0⟩
  refine ⟨fun _=>?_,fun j u hu=>?_⟩
  ·rw [hb]; exact (h.2.2 ad ha).1 h0
  ·rw [World.cell?_of_block (w:=w) (by rw [addr_block]; exact hb)]
   exact (h.2.2 ad ha).2 j u hu
theorem Sees.alloc (h : Sees w e size A n xs) (o : Obj) : Sees (w.alloc o) e size A n xs:=h.keep fun k hk _=>Below.heap_alloc w o k hk
theorem Sees.of_own {base c : Nat} {e : TypeId} (h : w.ownsRow base e size (.slice A n c) n xs) : Sees w (some e) size A n xs:=by
 refine ⟨h.1,fun ha=>?_,fun ad ha=>?_⟩
 ·rcases h.2 with ⟨_,h0⟩ | ⟨g,cap,cur,hv,_⟩
  ·exact h0
  ·subst ha; cases hv
 ·subst ha
  rcases h.2 with ⟨hv,_⟩ | ⟨g,cap,cur,hv,_,hg,_⟩
  ·cases hv
  ·have hv':=hv
   injection hv' with hA _ _
   injection hA with hA
   subst hA
   exact ⟨fun _=>⟨cur,e,(0,0),hg,fun _ ht=>Option.some.inj ht⟩,h.cells (g:=g) rfl⟩
end
def Blk (w : World) (g : Nat) (t : TypeId) (cs : Array Value) : Prop:=w.heap[g]? = some (.cells cs t (0,0))
section
variable {w w' : World} {g : Nat} {t : TypeId} {cs : Array Value}
theorem Blk.lt (h : Blk w g t cs) : g < w.heap.size:=(Array.getElem?_eq_some_iff.1 h).1
theorem Blk.cell (h : Blk w g t cs) (i : Nat) : w.cell? ⟨g,i,none⟩ = cs[i]?:=cell_of_row w g i cs t (0,0) h
theorem Blk.frozen (h : Blk w g t cs) (i : Nat) : w.frozen? ⟨g,i,none⟩ = false:=by
 unfold Blk at h
 simp [World.frozen?,h]
theorem Blk.new (w : World) (t : TypeId) (cs : Array Value) : Blk (w.alloc (.cells cs t)) w.heap.size t cs:=heap_alloc_new w _
theorem Blk.alloc (h : Blk w g t cs) (o : Obj) : Blk (w.alloc o) g t cs:=(Below.heap_alloc w o g h.lt).trans h
theorem Blk.put (h : Blk w g t cs) (i : Nat) (u : Value) : Blk (w.setCell ⟨g,i,none⟩ u) g t (cs.setIfInBounds i u):=by
 unfold Blk at h ⊢
 simp [World.setCell,Array.getElem?_modify,h]
theorem Blk.far (h : Blk w g t cs) {p : Addr} (hp : g ≠ p.block) (u : Value) : Blk (w.setCell p u) g t cs:=(Below.heap_setCell w p u g hp).trans h
theorem Blk.below (h : Blk w g t cs) (hb : Below w.heap.size w w') : Blk w' g t cs:=(hb.block g h.lt).trans h
theorem Blk.grown (h : Blk w g t cs) {row : Option Nat} (hb : w.grownBy w' row) (hg : row ≠ some g) : Blk w' g t cs:=(hb.block g h.lt (fun e=>hg e.symm)).trans h
end
theorem grown_set (w : World) (g i : Nat) (u : Value) : w.grownBy (w.setCell ⟨g,i,none⟩ u) (some g):=
 ⟨rfl,rfl,rfl,by simp [World.setCell],fun k _ hne=>Below.heap_setCell w _ u k (fun e=>hne (by simp [e]))⟩
theorem grown_trans {a b c : World} {r : Option Nat} (h : a.grownBy b r) (k : b.grownBy c r) : a.grownBy c r:=
 ⟨k.os.trans h.os,k.tape.trans h.tape,k.output.trans h.output,Nat.le_trans h.size k.size,fun i hi hne=>(k.block i (Nat.lt_of_lt_of_le hi h.size) hne).trans (h.block i hi hne)⟩
theorem below_of_only {w w' : World} {g B : Nat} (h : w.grownBy w' (some g)) (hg : B ≤ g) (hB : B ≤ w.heap.size) : Below B w w':=
 ⟨h.os,h.tape,h.output,h.size,fun k hk=>h.block k (by omega) (fun e=>by injection e; omega)⟩
end Go.Proofs.YtpgfhkbnngjegaaGreatDoor

namespace Go.Proofs.YtpgfhkbnngjegaaGreatDoor
open Go.RowKit
def Door (p : Prop) : Prop:=p
theorem Door.enter {p : Prop} (h : Door p) : p:=h
theorem Door.leave {p : Prop} (h : p) : Door p:=h
structure ElemTy (P : Program) (t e : TypeId) (z : Value) (size bytes : Nat) : Prop where
 ht : P.underlying t = some (.slice e)
 hi : (P.info? e).map (fun i=>(i.zero,i.size,i.bytes)) = some (some z,size,bytes)
 hzs : z.cells.size = size
 hsz : 0 < size
 hby : 0 < bytes
theorem ElemTy.one {P : Program} {t e : TypeId} {z : Value} {bytes : Nat} (T : ElemTy P t e z 1 bytes) : (P.info? e).map (·.size) = some 1:=by
 obtain ⟨i,hi,_,hs,_⟩:=info_parts T.hi
 simp [hi,hs]
theorem own_cap {w : World} {base : Nat} {e : TypeId} {size n c : Nat} {A : Option Addr} {xs : List Value} (h : w.ownsRow base e size (.slice A n c) n xs) : n ≤ c∧c ≤ maxLen:=by
 rcases h.2 with ⟨hv,h0⟩ | ⟨g,cap,cur,hv,_,_,hnc,hcm,_⟩
 ·injection hv with _ _ hc
  subst hc
  exact ⟨by omega,by simp [maxLen]⟩
 ·injection hv with _ _ hc
  subst hc
  exact ⟨hnc,hcm⟩
theorem own_below {w w' : World} {base : Nat} {e : TypeId} {size n : Nat} {v : Value} {xs : List Value} (h : w.ownsRow base e size v n xs) (hb : Below w.heap.size w w') : w'.ownsRow base e size v n xs:=by
 refine ⟨h.1,?_⟩
 rcases h.2 with hn | ⟨g,cap,cur,hv,hb',hg,r⟩
 ·exact .inl hn
 ·exact .inr ⟨g,cap,cur,hv,hb',by rw [hb.block g (Array.getElem?_eq_some_iff.1 hg).1]; exact hg,r⟩
section
variable {P : Program} {w : World} {t e : TypeId} {z : Value} {size bytes : Nat}
theorem run_append_sees (T : ElemTy P t e z size bytes) (ty : TypeId) {base n c m d : Nat} {A B : Option Addr} {xs ys : List Value}
  (hown : w.ownsRow base e size (.slice A n c) n xs) {e' : Option TypeId} (hr : Sees w e' size B m ys) (h1 : ∀ u ∈ ys,u.oneCell' = true)
  (hb : (n + m) * bytes ≤ 140737488355328) (hbase : base ≤ w.heap.size) :
  ∃ A' c' w',(Builtin.append_ #[t,t] ty #[.slice A n c,.slice B m d]).run P w = .ok (.slice A' (n + m) c') w' ∧
   w'.ownsRow base e size (.slice A' (n + m) c') (n + m) (xs ++ ys)∧w.grownBy w' (Value.ownBlock (.slice A n c)) ∧
   (Value.ownBlock (.slice A' (n + m) c') = Value.ownBlock (.slice A n c)∨Value.ownBlock (.slice A' (n + m) c') = some w.heap.size):=by
 obtain ⟨i,hi,hz,hs,hy⟩:=info_parts T.hi
 have h63 : n + m ≤ maxLen:=by
  have:=Nat.le_mul_of_pos_right (n + m) T.hby
  simp only [maxLen]
  omega
 have shape : ∀ {v' : Value} {w' : World},w'.ownsRow base e size v' (n + m) (xs ++ ys)→∃ A' c',v' = .slice A' (n + m) c':=by
  intro v' w' h
  rcases h.2 with ⟨rfl,h0⟩ | ⟨g,cap,cur,rfl,_⟩
  ·exact ⟨none,0,by rw [h0]⟩
  ·exact ⟨_,_,rfl⟩
 rcases B with _ | ad
 ·have hm : m = 0:=hr.2.1 rfl
  subst hm
  have hn:=hr.empty
  subst hn
  have hrun : (Builtin.append_ #[t,t] ty #[.slice A n c,.slice none 0 d]).run P w = .ok (.slice A n c) w:=by
   rcases hown.2 with ⟨hv,rfl⟩ | ⟨g,cap,cur,hv,_,_,hnc,_⟩
   ·rw [hv]
    simp [Builtin.append_,run_underlying T.ht,sizeOf,typeInfo,hi,Builtin.lenOf,Builtin.firstCells]
   ·rw [hv]
    simp [Builtin.append_,run_underlying T.ht,sizeOf,typeInfo,hi,Builtin.lenOf,Builtin.firstCells,hnc,storeCells]
  exact ⟨A,c,w,hrun,by simpa using hown,World.grownBy.refl w _,.inl rfl⟩
 ·obtain ⟨v',w',hrun,h2,h3,_,h5⟩:=run_append_own_at (P:=P) w base t ty e i z size bytes T.ht hi hz hs hy T.hzs T.hsz _ n xs hown ad m d ys hr.1 (hr.2.2 ad rfl).2 h1 h63 hb hbase
  obtain ⟨A',c',rfl⟩:=shape h2
  exact ⟨A',c',w',hrun,h2,h3,h5⟩
theorem below_of_grown {w' : World} {base : Nat} {A : Option Addr} {n c : Nat} {xs : List Value} (hown : w.ownsRow base e size (.slice A n c) n xs)
  (hg : w.grownBy w' (Value.ownBlock (.slice A n c))) (hbase : base ≤ w.heap.size) : Below base w w':=
 (Below.refl _ _).grown hg hbase (fun k hk=>(hown.lt k hk).1)
theorem wl_append (T : ElemTy P t e z size bytes) {base n c m d k : Nat} {A B : Option Addr} {xs ys zs : List Value}
  (hown : w.ownsRow base e size (.slice A n c) n xs) {e' : Option TypeId} (hr : Sees w e' size B m ys) (hk : n + m = k) (hz : xs ++ ys = zs) (h1 : ∀ u ∈ ys,u.oneCell' = true)
  (hb : k * bytes ≤ 140737488355328) (hbase : base ≤ w.heap.size)
  {ops : Array Oper} {rest : List Oper} {o : Oper} {a : Act} {Q : Exit→Act→World→Prop} {s x : Operand} (hgd : o.guard = none)
  (ho : o.op = .call { callee:=.builtin .append,args:=#[s,x],argTypes:=#[t,t] })
  (hs : a.eval s = .slice A n c) (hx : a.eval x = .slice B m d)
  (h : ∀ A' c' w',w'.ownsRow base e size (.slice A' k c') k zs→Below base w w'→w.grownBy w' (Value.ownBlock (.slice A n c)) →
   (Value.ownBlock (.slice A' k c') = Value.ownBlock (.slice A n c)∨Value.ownBlock (.slice A' k c') = some w.heap.size) →
   wpList P ops Q rest (a.put o.dst (.slice A' k c')) w') : wpList P ops Q (o :: rest) a w:=by
 subst hk
 subst hz
 obtain ⟨A',c',w',hrun,h2,h3,h4⟩:=run_append_sees T o.type (d:=d) hown hr h1 hb hbase
 refine wpList_plain hgd fun K hK=>?_
 unfold Oper.wp execOp
 simp only [ho,resolve,invoke,builtin,Sem.run_bind,Sem.run_pure,Result.andThen_ok,List.map_toArray,List.map_cons,List.map_nil,hs,hx,hrun]
 exact hK _ _ (h A' c' w' h2 (below_of_grown hown h3 hbase) h3 h4)
theorem wl_copy (T : ElemTy P t e z 1 bytes) {base n c m d : Nat} {A B : Option Addr} {xs ys : List Value}
  (hown : w.ownsRow base e 1 (.slice A n c) n xs) {e' : Option TypeId} (hr : Sees w e' 1 B m ys) (hmn : m ≤ n) (h1 : ∀ u ∈ ys,u.oneCell' = true)
  {ops : Array Oper} {rest : List Oper} {o : Oper} {a : Act} {Q : Exit→Act→World→Prop} {s x : Operand} (hgd : o.guard = none) {tx : TypeId}
  (ho : o.op = .call { callee:=.builtin .copy,args:=#[s,x],argTypes:=#[t,tx] })
  (hs : a.eval s = .slice A n c) (hx : a.eval x = .slice B m d)
  (h : ∀ w',w'.ownsRow base e 1 (.slice A n c) n (ys ++ xs.drop m)→Below base w w'→w.grownBy w' (Value.ownBlock (.slice A n c)) →
   wpList P ops Q rest (a.put o.dst (goInt m)) w') : wpList P ops Q (o :: rest) a w:=by
 have hym : ys.length = m:=by have:=hr.1; omega
 rcases hown.2 with ⟨hv,h0⟩ | ⟨g,cap,cur,hv,hbg,hg,hnc,hcm,hcs,htk⟩
 ·have hm : m = 0:=by omega
  subst hm
  have hy:=hr.empty
  subst hy
  refine wpList_copy_nothing hgd s x t tx ho e T.ht T.one A B n c 0 d hs hx (by simp) ?_
  exact h w (by simpa using hown) (Below.refl _ _) (World.grownBy.refl w _)
 ·injection hv with hA _ hc'
  subst hA
  subst hc'
  rcases Nat.eq_zero_or_pos m with hm | hm
  ·subst hm
   have hy:=hr.empty
   subst hy
   refine wpList_copy_nothing hgd s x t tx ho e T.ht T.one _ B n c 0 d hs hx (by simp) ?_
   exact h w (by simpa using hown) (Below.refl _ _) (World.grownBy.refl w _)
  ·obtain ⟨ad,rfl⟩:=hr.addr hm
   refine wpList_copy_own hgd s x t tx ho e T.ht T.one g 0 n c ad m d hs hx cur e hg ys (by rw [hym]; exact (Nat.min_eq_left hmn).symm) (hr.2.2 ad rfl).2 (by omega) h1 ?_
   rw [hym]
   refine h _ ⟨?_,.inr ⟨g,c,_,rfl,hbg,setRow_heap w g cur _ e (0,0) hg,hnc,hcm,?_,?_⟩⟩ (below_setRow (Below.refl _ _) hbg _) ⟨rfl,rfl,rfl,by simp [World.setRow],fun k hk hne=>setRow_other w g k _ (fun e=>hne (by simp [Value.ownBlock,e]))⟩
   ·have:=hown.1
    simp only [List.length_append,List.length_drop]
    omega
   ·simp only [List.size_toArray,List.length_append,List.length_take,List.length_drop,Array.length_toList]
    omega
   ·rw [← htk]
    simp only [Nat.zero_add,List.take_zero,List.nil_append,Nat.mul_one]
    rw [List.take_append,List.take_of_length_le (by omega),hym,List.drop_take]
end
end Go.Proofs.YtpgfhkbnngjegaaGreatDoor

namespace Go.Proofs.YtpgfhkbnngjegaaGreatDoor
def gl : Nat→Option (List Value):=fun _=>none
def glO : Nat→Option (Array Value):=fun _=>none
def glI : Nat→Bool:=fun _=>false
end Go.Proofs.YtpgfhkbnngjegaaGreatDoor

namespace Go.Proofs.YtpgfhkbnngjegaaGreatDoor
open Go.RowKit
set_option linter.unusedVariables false
set_option linter.unusedSimpArgs false
inductive TV where
 | any
 | v (x : Value)
 | nil_
 | agg (ts : List TV)
 | tup (ts : List TV)
 | fn (f : Fn) (ts : List TV)
 | ptr (i off : Nat)
 | row (i : Nat)
 | sl (b : Bool) (els : List (List TV))
 | eptr (ts : List TV)
 | osl (e : TypeId) (sz : Nat) (els : List (List TV))
 | z (i : Nat) (t : TV)
 | win (i k sz : Nat)
 deriving Inhabited
structure Cx where
 w : World
 S : Nat→Prop
 B : Nat
 ρ : Nat→Value
 pres : Nat→Prop
 ow : Value→TypeId→Nat→Nat→List Value→Prop
 Z : Nat→Nat→Prop
def blkOf : Value→Option Nat
 | .pointer (some a)=>some a.block
 | .slice (some a) _ _=>some a.block
 | _=>none
mutual
def DnZ (w : World) (S : Nat→Prop) (B : Nat) : TV→Value→Prop
 | .any,_=>True
 | .v x,u=>u = x
 | .nil_,u=>u = .slice none 0 0
 | .agg ts,u=>∃ vs : List Value,u = .agg vs.toArray∧DnZL w S B ts vs
 | .tup ts,u=>∃ vs : List Value,u = .tuple vs.toArray∧DnZL w S B ts vs
 | .fn f ts,u=>∃ vs : List Value,u = .func f #[] vs.toArray∧DnZL w S B ts vs
 | .sl b els,u=>∃ (A : Option Addr) (c : Nat) (css : List (List Value)) (sz : Nat),u = .slice A els.length c∧els.length ≤ c∧c ≤ maxLen∧(A = none→els = [])∧(∀ x ∈ css,x.length = sz)∧DnZLL w S B els css ∧
   ∀ ad,A = some ad→(els ≠ []→S ad.block∧ad.block < w.heap.size∧(b = true→B ≤ ad.block∧Unf w ad.block))∧∀ j x,css.flatten[j]? = some x→w.cell? (ad.add j) = some x
 | .eptr ts,u=>∃ (ad : Addr) (vs : List Value),u = .pointer (some ad)∧S ad.block∧ad.block < w.heap.size∧DnZL w S B ts vs∧∀ j x,vs[j]? = some x→w.cell? (ad.add j) = some x
 | .ptr _ _,_=>False
 | .row _,_=>False
 | .osl _ _ _,_=>False
 | .z _ _,_=>False
 | .win _ _ _,_=>False
def DnZL (w : World) (S : Nat→Prop) (B : Nat) : List TV→List Value→Prop
 | [],us=>us = []
 | t :: ts,us=>∃ u us',us = u :: us'∧DnZ w S B t u∧DnZL w S B ts us'
def DnZLL (w : World) (S : Nat→Prop) (B : Nat) : List (List TV)→List (List Value)→Prop
 | [],us=>us = []
 | t :: ts,us=>∃ u us',us = u :: us'∧DnZL w S B t u∧DnZLL w S B ts us'
end
def WinA (A A' : Option Addr) (k c sz : Nat) : Prop:=k < c→∃ ad,A = some ad∧A' = some ⟨ad.block,ad.off + k * sz,none⟩
mutual
def Dn (C : Cx) : TV→Value→Prop
 | .any,_=>True
 | .v x,u=>u = x
 | .nil_,u=>u = .slice none 0 0
 | .agg ts,u=>∃ vs : List Value,u = .agg vs.toArray∧DnL C ts vs
 | .tup ts,u=>∃ vs : List Value,u = .tuple vs.toArray∧DnL C ts vs
 | .fn f ts,u=>∃ vs : List Value,u = .func f #[] vs.toArray∧DnL C ts vs
 | .ptr i off,u=>C.pres i∧∃ g,blkOf (C.ρ i) = some g∧u = .pointer (some ⟨g,off,none⟩)
 | .row i,u=>C.pres i∧u = C.ρ i
 | .sl b els,u=>∃ (A : Option Addr) (c : Nat) (css : List (List Value)) (sz : Nat),u = .slice A els.length c∧els.length ≤ c∧c ≤ maxLen∧(A = none→els = [])∧(∀ x ∈ css,x.length = sz)∧DnLL C els css ∧
   ∀ ad,A = some ad→(els ≠ []→C.S ad.block∧ad.block < C.w.heap.size∧(b = true→C.B ≤ ad.block∧Unf C.w ad.block))∧∀ j x,css.flatten[j]? = some x→C.w.cell? (ad.add j) = some x
 | .eptr ts,u=>∃ (ad : Addr) (vs : List Value),u = .pointer (some ad)∧C.S ad.block∧ad.block < C.w.heap.size∧DnL C ts vs∧∀ j x,vs[j]? = some x→C.w.cell? (ad.add j) = some x
 | .osl e sz els,u=>∃ (A : Option Addr) (c : Nat) (css : List (List Value)),u = .slice A els.length c∧C.ow u e sz els.length css.flatten∧(∀ x ∈ css,x.length = sz)∧DnLL C els css
 | .z i t,u=>C.pres i∧DnZ C.w (C.Z i) C.B t u
 | .win i k sz,u=>C.pres i∧∃ A n c,C.ρ i = .slice A n c∧k ≤ n∧∃ A',u = .slice A' (n - k) (c - k)∧WinA A A' k c sz
def DnL (C : Cx) : List TV→List Value→Prop
 | [],us=>us = []
 | t :: ts,us=>∃ u us',us = u :: us'∧Dn C t u∧DnL C ts us'
def DnLL (C : Cx) : List (List TV)→List (List Value)→Prop
 | [],us=>us = []
 | t :: ts,us=>∃ u us',us = u :: us'∧DnL C t u∧DnLL C ts us'
end
structure Keeps (C C' : Cx) : Prop where
 blk : ∀ k,C.S k→k < C.w.heap.size→C'.w.heap[k]? = C.w.heap[k]?∧C'.S k∧k < C'.w.heap.size
 base : C'.B ≤ C.B
 loc : ∀ i,C.pres i→C'.pres i∧C'.ρ i = C.ρ i
 own : ∀ u e sz n xs,C.ow u e sz n xs→C'.ow u e sz n xs
 zn : ∀ i k,C.pres i→C.Z i k→k < C.w.heap.size→C'.w.heap[k]? = C.w.heap[k]?∧C'.Z i k∧k < C'.w.heap.size
theorem cell_keep {w w' : World} {a : Addr} {x : Value} (h : w'.heap[a.block]? = w.heap[a.block]?) (hc : w.cell? a = some x) : w'.cell? a = some x:=by
 rw [World.cell?_of_block h]; exact hc
theorem cell_keepC {w w' : World} {a : Addr} {x : Value} (h : ∀ (cs : Array Value) (ty : TypeId) (fr : Nat × Nat),w.heap[a.block]? = some (Obj.cells cs ty fr)→w'.heap[a.block]? = some (Obj.cells cs ty fr)) (hc : w.cell? a = some x) : w'.cell? a = some x:=by
 cases hb : w.heap[a.block]? with
 | none=>simp [World.cell?,hb] at hc
 | some o=>
  cases o with
  | cells cs ty fr=>exact cell_keep (by rw [hb]; exact h _ _ _ hb) hc
  | _=>simp [World.cell?,hb] at hc
mutual
theorem DnZ.keep {w w' : World} {S S' : Nat→Prop} {B B' : Nat} (K : ∀ k,S k→k < w.heap.size→(∀ (cs : Array Value) (ty : TypeId) (fr : Nat × Nat),w.heap[k]? = some (Obj.cells cs ty fr)→w'.heap[k]? = some (Obj.cells cs ty fr))∧S' k∧k < w'.heap.size) (hB : B' ≤ B) : ∀ (t : TV) (u : Value),DnZ w S B t u→DnZ w' S' B' t u
 | .any,_,_=>by simp [DnZ]
 | .v x,u,h=>by simp only [DnZ] at h ⊢; exact h
 | .nil_,u,h=>by simp only [DnZ] at h ⊢; exact h
 | .agg ts,u,h=>by
  simp only [DnZ] at h ⊢
  obtain ⟨vs,h1,h2⟩:=h
  exact ⟨vs,h1,DnZL.keep K hB ts vs h2⟩
 | .tup ts,u,h=>by
  simp only [DnZ] at h ⊢
  obtain ⟨vs,h1,h2⟩:=h
  exact ⟨vs,h1,DnZL.keep K hB ts vs h2⟩
 | .fn f ts,u,h=>by
  simp only [DnZ] at h ⊢
  obtain ⟨vs,h1,h2⟩:=h
  exact ⟨vs,h1,DnZL.keep K hB ts vs h2⟩
 | .sl b els,u,h=>by
  simp only [DnZ] at h ⊢
  obtain ⟨A,c,css,sz,h1,h2,h3,h4,h5,h6,h7⟩:=h
  refine ⟨A,c,css,sz,h1,h2,h3,h4,h5,DnZLL.keep K hB els css h6,fun ad ha=>?_⟩
  obtain ⟨h8,h9⟩:=h7 ad ha
  refine ⟨fun hne=>?_,fun j x hx=>?_⟩
  ·obtain ⟨h10,h11,h12⟩:=h8 hne
   obtain ⟨h13,h14,h15⟩:=K _ h10 h11
   refine ⟨h14,h15,fun hb=>⟨Nat.le_trans hB (h12 hb).1,?_⟩⟩
   obtain ⟨cur,ty,h16⟩:=(h12 hb).2
   exact ⟨cur,ty,h13 _ _ _ h16⟩
  ·have hne : els ≠ []:=by
    rintro rfl
    simp only [DnZLL] at h6
    subst h6
    simp at hx
   obtain ⟨h10,h11,h12⟩:=h8 hne
   exact cell_keepC (by rw [addr_block]; exact (K _ h10 h11).1) (h9 j x hx)
 | .eptr ts,u,h=>by
  simp only [DnZ] at h ⊢
  obtain ⟨ad,vs,h1,h2,h3,h4,h5⟩:=h
  obtain ⟨h13,h14,h15⟩:=K _ h2 h3
  exact ⟨ad,vs,h1,h14,h15,DnZL.keep K hB ts vs h4,fun j x hx=>cell_keepC (by rw [addr_block]; exact h13) (h5 j x hx)⟩
 | .ptr _ _,_,h | .row _,_,h | .osl _ _ _,_,h | .z _ _,_,h | .win _ _ _,_,h=>by simp only [DnZ] at h
theorem DnZL.keep {w w' : World} {S S' : Nat→Prop} {B B' : Nat} (K : ∀ k,S k→k < w.heap.size→(∀ (cs : Array Value) (ty : TypeId) (fr : Nat × Nat),w.heap[k]? = some (Obj.cells cs ty fr)→w'.heap[k]? = some (Obj.cells cs ty fr))∧S' k∧k < w'.heap.size) (hB : B' ≤ B) : ∀ (ts : List TV) (us : List Value),DnZL w S B ts us→DnZL w' S' B' ts us
 | [],us,h=>by simp only [DnZL] at h ⊢; exact h
 | t :: ts,us,h=>by
  simp only [DnZL] at h ⊢
  obtain ⟨u,us',h1,h2,h3⟩:=h
  exact ⟨u,us',h1,DnZ.keep K hB t u h2,DnZL.keep K hB ts us' h3⟩
theorem DnZLL.keep {w w' : World} {S S' : Nat→Prop} {B B' : Nat} (K : ∀ k,S k→k < w.heap.size→(∀ (cs : Array Value) (ty : TypeId) (fr : Nat × Nat),w.heap[k]? = some (Obj.cells cs ty fr)→w'.heap[k]? = some (Obj.cells cs ty fr))∧S' k∧k < w'.heap.size) (hB : B' ≤ B) : ∀ (ts : List (List TV)) (us : List (List Value)),DnZLL w S B ts us→DnZLL w' S' B' ts us
 | [],us,h=>by simp only [DnZLL] at h ⊢; exact h
 | t :: ts,us,h=>by
  simp only [DnZLL] at h ⊢
  obtain ⟨u,us',h1,h2,h3⟩:=h
  exact ⟨u,us',h1,DnZL.keep K hB t u h2,DnZLL.keep K hB ts us' h3⟩
end
mutual
theorem DnZ.dn {C : Cx} {S : Nat→Prop} {B : Nat} (hS : ∀ k,S k→k < C.w.heap.size→C.S k) (hB : C.B ≤ B) : ∀ (t : TV) (u : Value),DnZ C.w S B t u→Dn C t u
 | .any,_,_=>by simp [Dn]
 | .v x,u,h=>by simp only [DnZ,Dn] at h ⊢; exact h
 | .nil_,u,h=>by simp only [DnZ,Dn] at h ⊢; exact h
 | .agg ts,u,h=>by
  simp only [DnZ,Dn] at h ⊢
  obtain ⟨vs,h1,h2⟩:=h
  exact ⟨vs,h1,DnZL.dn hS hB ts vs h2⟩
 | .tup ts,u,h=>by
  simp only [DnZ,Dn] at h ⊢
  obtain ⟨vs,h1,h2⟩:=h
  exact ⟨vs,h1,DnZL.dn hS hB ts vs h2⟩
 | .fn f ts,u,h=>by
  simp only [DnZ,Dn] at h ⊢
  obtain ⟨vs,h1,h2⟩:=h
  exact ⟨vs,h1,DnZL.dn hS hB ts vs h2⟩
 | .sl b els,u,h=>by
  simp only [DnZ,Dn] at h ⊢
  obtain ⟨A,c,css,sz,h1,h2,h3,h4,h5,h6,h7⟩:=h
  refine ⟨A,c,css,sz,h1,h2,h3,h4,h5,DnZLL.dn hS hB els css h6,fun ad ha=>⟨fun hne=>?_,(h7 ad ha).2⟩⟩
  obtain ⟨h10,h11,h12⟩:=(h7 ad ha).1 hne
  exact ⟨hS _ h10 h11,h11,fun hb=>⟨Nat.le_trans hB (h12 hb).1,(h12 hb).2⟩⟩
 | .eptr ts,u,h=>by
  simp only [DnZ,Dn] at h ⊢
  obtain ⟨ad,vs,h1,h2,h3,h4,h5⟩:=h
  exact ⟨ad,vs,h1,hS _ h2 h3,h3,DnZL.dn hS hB ts vs h4,h5⟩
 | .ptr _ _,_,h | .row _,_,h | .osl _ _ _,_,h | .z _ _,_,h | .win _ _ _,_,h=>by simp only [DnZ] at h
theorem DnZL.dn {C : Cx} {S : Nat→Prop} {B : Nat} (hS : ∀ k,S k→k < C.w.heap.size→C.S k) (hB : C.B ≤ B) : ∀ (ts : List TV) (us : List Value),DnZL C.w S B ts us→DnL C ts us
 | [],us,h=>by simp only [DnZL,DnL] at h ⊢; exact h
 | t :: ts,us,h=>by
  simp only [DnZL,DnL] at h ⊢
  obtain ⟨u,us',h1,h2,h3⟩:=h
  exact ⟨u,us',h1,DnZ.dn hS hB t u h2,DnZL.dn hS hB ts us' h3⟩
theorem DnZLL.dn {C : Cx} {S : Nat→Prop} {B : Nat} (hS : ∀ k,S k→k < C.w.heap.size→C.S k) (hB : C.B ≤ B) : ∀ (ts : List (List TV)) (us : List (List Value)),DnZLL C.w S B ts us→DnLL C ts us
 | [],us,h=>by simp only [DnZLL,DnLL] at h ⊢; exact h
 | t :: ts,us,h=>by
  simp only [DnZLL,DnLL] at h ⊢
  obtain ⟨u,us',h1,h2,h3⟩:=h
  exact ⟨u,us',h1,DnZL.dn hS hB t u h2,DnZLL.dn hS hB ts us' h3⟩
end
mutual
theorem Dn.keep {C C' : Cx} (K : Keeps C C') : ∀ (t : TV) (u : Value),Dn C t u→Dn C' t u
 | .any,_,_=>by simp [Dn]
 | .v x,u,h=>by simp only [Dn] at h ⊢; exact h
 | .nil_,u,h=>by simp only [Dn] at h ⊢; exact h
 | .agg ts,u,h=>by
  simp only [Dn] at h ⊢
  obtain ⟨vs,h1,h2⟩:=h
  exact ⟨vs,h1,DnL.keep K ts vs h2⟩
 | .tup ts,u,h=>by
  simp only [Dn] at h ⊢
  obtain ⟨vs,h1,h2⟩:=h
  exact ⟨vs,h1,DnL.keep K ts vs h2⟩
 | .fn f ts,u,h=>by
  simp only [Dn] at h ⊢
  obtain ⟨vs,h1,h2⟩:=h
  exact ⟨vs,h1,DnL.keep K ts vs h2⟩
 | .ptr i off,u,h=>by
  simp only [Dn] at h ⊢
  obtain ⟨h1,g,h2,h3⟩:=h
  exact ⟨(K.loc i h1).1,g,by rw [(K.loc i h1).2]; exact h2,h3⟩
 | .row i,u,h=>by
  simp only [Dn] at h ⊢
  exact ⟨(K.loc i h.1).1,by rw [(K.loc i h.1).2]; exact h.2⟩
 | .sl b els,u,h=>by
  simp only [Dn] at h ⊢
  obtain ⟨A,c,css,sz,h1,h2,h3,h4,h5,h6,h7⟩:=h
  refine ⟨A,c,css,sz,h1,h2,h3,h4,h5,DnLL.keep K els css h6,fun ad ha=>?_⟩
  obtain ⟨h8,h9⟩:=h7 ad ha
  refine ⟨fun hne=>?_,fun j x hx=>?_⟩
  ·obtain ⟨h10,h11,h12⟩:=h8 hne
   obtain ⟨h13,h14,h15⟩:=K.blk _ h10 h11
   exact ⟨h14,h15,fun hb=>⟨Nat.le_trans K.base (h12 hb).1,by unfold Unf; rw [h13]; exact (h12 hb).2⟩⟩
  ·have hne : els ≠ []:=by
    rintro rfl
    simp only [DnLL] at h6
    subst h6
    simp at hx
   obtain ⟨h10,h11,h12⟩:=h8 hne
   exact cell_keep (by rw [addr_block]; exact (K.blk _ h10 h11).1) (h9 j x hx)
 | .eptr ts,u,h=>by
  simp only [Dn] at h ⊢
  obtain ⟨ad,vs,h1,h2,h3,h4,h5⟩:=h
  obtain ⟨h13,h14,h15⟩:=K.blk _ h2 h3
  exact ⟨ad,vs,h1,h14,h15,DnL.keep K ts vs h4,fun j x hx=>cell_keep (by rw [addr_block]; exact h13) (h5 j x hx)⟩
 | .osl e sz els,u,h=>by
  simp only [Dn] at h ⊢
  obtain ⟨A,c,css,h1,h2,h3,h4⟩:=h
  exact ⟨A,c,css,h1,K.own _ _ _ _ _ h2,h3,DnLL.keep K els css h4⟩
 | .z i t,u,h=>by
  simp only [Dn] at h ⊢
  exact ⟨(K.loc i h.1).1,DnZ.keep (fun k hk hl=>by obtain ⟨a,b,c⟩:=K.zn i k h.1 hk hl; exact ⟨fun _ _ _ e=>a.trans e,b,c⟩) K.base t u h.2⟩
 | .win i k sz,u,h=>by
  simp only [Dn] at h ⊢
  obtain ⟨h1,g,n,c,h2,h3⟩:=h
  exact ⟨(K.loc i h1).1,g,n,c,by rw [(K.loc i h1).2]; exact h2,h3⟩
theorem DnL.keep {C C' : Cx} (K : Keeps C C') : ∀ (ts : List TV) (us : List Value),DnL C ts us→DnL C' ts us
 | [],us,h=>by simp only [DnL] at h ⊢; exact h
 | t :: ts,us,h=>by
  simp only [DnL] at h ⊢
  obtain ⟨u,us',h1,h2,h3⟩:=h
  exact ⟨u,us',h1,Dn.keep K t u h2,DnL.keep K ts us' h3⟩
theorem DnLL.keep {C C' : Cx} (K : Keeps C C') : ∀ (ts : List (List TV)) (us : List (List Value)),DnLL C ts us→DnLL C' ts us
 | [],us,h=>by simp only [DnLL] at h ⊢; exact h
 | t :: ts,us,h=>by
  simp only [DnLL] at h ⊢
  obtain ⟨u,us',h1,h2,h3⟩:=h
  exact ⟨u,us',h1,DnL.keep K t u h2,DnLL.keep K ts us' h3⟩
end
section
variable {C : Cx}
theorem DnL.len : ∀ {ts : List TV} {us : List Value},DnL C ts us→us.length = ts.length
 | [],us,h=>by simp only [DnL] at h; subst h; rfl
 | t :: ts,us,h=>by
  simp only [DnL] at h
  obtain ⟨u,us',rfl,h2,h3⟩:=h
  simp [DnL.len h3]
theorem DnLL.len : ∀ {ts : List (List TV)} {us : List (List Value)},DnLL C ts us→us.length = ts.length
 | [],us,h=>by simp only [DnLL] at h; subst h; rfl
 | t :: ts,us,h=>by
  simp only [DnLL] at h
  obtain ⟨u,us',rfl,h2,h3⟩:=h
  simp [DnLL.len h3]
theorem DnL.at_ : ∀ {ts : List TV} {us : List Value},DnL C ts us→∀ (i : Nat) (t : TV),ts[i]? = some t→∃ u,us[i]? = some u∧Dn C t u
 | [],us,h,i,t,hi=>by simp at hi
 | t :: ts,us,h,i,t',hi=>by
  simp only [DnL] at h
  obtain ⟨u,us',rfl,h2,h3⟩:=h
  cases i with
  | zero=>simp only [List.getElem?_cons_zero,Option.some.injEq] at hi ⊢; subst hi; exact ⟨u,rfl,h2⟩
  | succ i=>simp only [List.getElem?_cons_succ] at hi ⊢; exact DnL.at_ h3 i t' hi
theorem DnLL.at_ : ∀ {ts : List (List TV)} {us : List (List Value)},DnLL C ts us→∀ (i : Nat) (t : List TV),ts[i]? = some t→∃ u,us[i]? = some u∧DnL C t u
 | [],us,h,i,t,hi=>by simp at hi
 | t :: ts,us,h,i,t',hi=>by
  simp only [DnLL] at h
  obtain ⟨u,us',rfl,h2,h3⟩:=h
  cases i with
  | zero=>simp only [List.getElem?_cons_zero,Option.some.injEq] at hi ⊢; subst hi; exact ⟨u,rfl,h2⟩
  | succ i=>simp only [List.getElem?_cons_succ] at hi ⊢; exact DnLL.at_ h3 i t' hi
theorem DnL.cons {t : TV} {ts : List TV} {u : Value} {us : List Value} (h : Dn C t u) (h2 : DnL C ts us) : DnL C (t :: ts) (u :: us):=by
 simp only [DnL]; exact ⟨u,us,rfl,h,h2⟩
theorem DnLL.cons {t : List TV} {ts : List (List TV)} {u : List Value} {us : List (List Value)} (h : DnL C t u) (h2 : DnLL C ts us) : DnLL C (t :: ts) (u :: us):=by
 simp only [DnLL]; exact ⟨u,us,rfl,h,h2⟩
theorem DnL.nil : DnL C [] []:=by simp [DnL]
theorem DnLL.nil : DnLL C [] []:=by simp [DnLL]
theorem DnL.append : ∀ {ts ts' : List TV} {us us' : List Value},DnL C ts us→DnL C ts' us'→DnL C (ts ++ ts') (us ++ us')
 | [],ts',us,us',h,h'=>by simp only [DnL] at h; subst h; exact h'
 | t :: ts,ts',us,us',h,h'=>by
  simp only [DnL] at h
  obtain ⟨u,us2,rfl,h2,h3⟩:=h
  exact DnL.cons h2 (DnL.append h3 h')
theorem DnLL.append : ∀ {ts ts' : List (List TV)} {us us' : List (List Value)},DnLL C ts us→DnLL C ts' us'→DnLL C (ts ++ ts') (us ++ us')
 | [],ts',us,us',h,h'=>by simp only [DnLL] at h; subst h; exact h'
 | t :: ts,ts',us,us',h,h'=>by
  simp only [DnLL] at h
  obtain ⟨u,us2,rfl,h2,h3⟩:=h
  exact DnLL.cons h2 (DnLL.append h3 h')
theorem DnL.take : ∀ {ts : List TV} {us : List Value} (k : Nat),DnL C ts us→DnL C (ts.take k) (us.take k)
 | [],us,k,h=>by simp only [DnL] at h; subst h; simp [DnL]
 | t :: ts,us,k,h=>by
  simp only [DnL] at h
  obtain ⟨u,us2,rfl,h2,h3⟩:=h
  cases k with
  | zero=>simp [DnL]
  | succ k=>exact DnL.cons h2 (DnL.take k h3)
theorem DnL.drop : ∀ {ts : List TV} {us : List Value} (k : Nat),DnL C ts us→DnL C (ts.drop k) (us.drop k)
 | [],us,k,h=>by simp only [DnL] at h; subst h; simp [DnL]
 | t :: ts,us,k,h=>by
  cases k with
  | zero=>exact h
  | succ k=>
   simp only [DnL] at h
   obtain ⟨u,us2,rfl,h2,h3⟩:=h
   exact DnL.drop k h3
theorem DnLL.take : ∀ {ts : List (List TV)} {us : List (List Value)} (k : Nat),DnLL C ts us→DnLL C (ts.take k) (us.take k)
 | [],us,k,h=>by simp only [DnLL] at h; subst h; simp [DnLL]
 | t :: ts,us,k,h=>by
  simp only [DnLL] at h
  obtain ⟨u,us2,rfl,h2,h3⟩:=h
  cases k with
  | zero=>simp [DnLL]
  | succ k=>exact DnLL.cons h2 (DnLL.take k h3)
theorem DnLL.drop : ∀ {ts : List (List TV)} {us : List (List Value)} (k : Nat),DnLL C ts us→DnLL C (ts.drop k) (us.drop k)
 | [],us,k,h=>by simp only [DnLL] at h; subst h; simp [DnLL]
 | t :: ts,us,k,h=>by
  cases k with
  | zero=>exact h
  | succ k=>
   simp only [DnLL] at h
   obtain ⟨u,us2,rfl,h2,h3⟩:=h
   exact DnLL.drop k h3
theorem DnL.set : ∀ {ts : List TV} {us : List Value} (k : Nat) {t : TV} {u : Value},DnL C ts us→Dn C t u→DnL C (ts.set k t) (us.set k u)
 | [],us,k,t,u,h,h'=>by simp only [DnL] at h; subst h; simp [DnL]
 | t0 :: ts,us,k,t,u,h,h'=>by
  simp only [DnL] at h
  obtain ⟨u0,us2,rfl,h2,h3⟩:=h
  cases k with
  | zero=>exact DnL.cons h' h3
  | succ k=>exact DnL.cons h2 (DnL.set k h3 h')
theorem DnLL.set : ∀ {ts : List (List TV)} {us : List (List Value)} (k : Nat) {t : List TV} {u : List Value},DnLL C ts us→DnL C t u→DnLL C (ts.set k t) (us.set k u)
 | [],us,k,t,u,h,h'=>by simp only [DnLL] at h; subst h; simp [DnLL]
 | t0 :: ts,us,k,t,u,h,h'=>by
  simp only [DnLL] at h
  obtain ⟨u0,us2,rfl,h2,h3⟩:=h
  cases k with
  | zero=>exact DnLL.cons h' h3
  | succ k=>exact DnLL.cons h2 (DnLL.set k h3 h')
theorem DnL.anys (n : Nat) (us : List Value) (h : us.length = n) : DnL C (List.replicate n .any) us:=by
 induction n generalizing us with
 | zero=>simp only [List.replicate_zero,DnL]; exact List.eq_nil_of_length_eq_zero h
 | succ n ih=>
  cases us with
  | nil=>simp at h
  | cons u us=>rw [List.replicate_succ]; exact DnL.cons (by simp [Dn]) (ih us (by simpa using h))
end
structure Ext where
 p : Value→Nat→Prop
 Q : Value→World→Prop
 st : ∀ (v : Value) (w w' : World),Q v w→(∀ k,p v k→w'.heap[k]? = w.heap[k]?)→Q v w'
 z : Bool:=false
inductive LB where
 | none
 | cells (t : TypeId) (cs : List TV)
 | row (e : TypeId) (sz : Nat) (els : List (List TV))
 | ext (x : Ext)
 deriving Inhabited
def LB.ps : LB→Value→Nat→Prop
 | .ext x,v,k=>x.p v k
 | _,_,_=>False
def LB.zs : LB→Value→Nat→Prop
 | .ext x,v,k=>x.z = true∧x.p v k
 | _,_,_=>False
theorem LB.zs_of {b : LB} {v : Value} {k : Nat} (h : b.zs v k) : ∃ x,b = .ext x∧x.p v k∧x.z = true:=by
 cases b <;> first | exact h.elim | exact ⟨_,rfl,h.2,h.1⟩
def LB.nx : LB→Prop
 | .ext _=>False
 | _=>True
theorem LB.nx_ps {b : LB} (h : b.nx) {v : Value} {k : Nat} : ¬ b.ps v k:=by cases b <;> first | exact fun e=>e | exact h.elim
theorem LB.ps_of {b : LB} {v : Value} {k : Nat} (h : b.ps v k) : ∃ x,b = .ext x∧x.p v k:=by
 cases b <;> first | exact h.elim | exact ⟨_,rfl,h⟩
def LB.here : LB→Prop
 | .none=>False
 | _=>True
def cxOf (B : Nat) (ρ : Nat→Value) (h : Nat→LB) (w : World) : Cx:=
 ⟨w,fun k=>(∀ i,(h i).here→blkOf (ρ i) ≠ some k)∧∀ i,¬ (h i).ps (ρ i) k,B,ρ,fun i=>(h i).here,fun _ _ _ _ _=>True,fun i k=>blkOf (ρ i) = none∧(h i).zs (ρ i) k∧(∀ j,(h j).here→blkOf (ρ j) ≠ some k)∧∀ j,j ≠ i→¬ (h j).ps (ρ j) k⟩
structure GlB (B : Nat) (w : World) : Prop where
 at_ : ∀ g vs,gl g = some vs→g < B∧∀ j x,vs[j]? = some x→w.cell? ⟨g,j,none⟩ = some x
 obj : ∀ g cs,glO g = some cs→g < B∧∃ ty fr,w.heap[g]? = some (.cells cs ty fr)
 ifc : ∀ g,glI g = true→g < B∧∃ v,w.cell? ⟨g,0,none⟩ = some v∧(v = .nilIface∨∃ te pe,v = .iface te pe)
def noCells : Obj→Bool
 | .cells _ _ _=>false
 | _=>true
def Oth (w w' : World) : Prop:=∀ (k : Nat) (o : Obj),w.heap[k]? = some o→noCells o = true→w'.heap[k]? = some o
theorem Oth.refl (w : World) : Oth w w:=fun _ _ h _=>h
theorem Oth.trans {a b c : World} (h : Oth a b) (h2 : Oth b c) : Oth a c:=fun k o hk ho=>h2 k o (h k o hk ho) ho
theorem Oth.below {w w' : World} (hb : Below w.heap.size w w') : Oth w w':=fun k o hk _=>(hb.block k (Array.getElem?_eq_some_iff.1 hk).1).trans hk
theorem Oth.setCell (w : World) (a : Addr) (v : Value) : Oth w (w.setCell a v):=fun k o hk ho=>by
 by_cases e : k = a.block
 ·subst e
  obtain ⟨hlt,hk'⟩:=Array.getElem?_eq_some_iff.1 hk
  show (w.heap.modify a.block _)[a.block]? = some o
  rw [Array.getElem?_eq_getElem (by rw [Array.size_modify]; exact hlt),Array.getElem_modify_self,hk']
  cases o <;> first | rfl | (simp [noCells] at ho)
 ·exact (Below.heap_setCell w a v k e).trans hk
theorem Oth.grown {w w' : World} {g : Option Nat} (hg : w.grownBy w' g) (h : ∀ k,g = some k→∃ cs ty fr,w.heap[k]? = some (.cells cs ty fr)) : Oth w w':=fun k o hk ho=>by
 refine (hg.block k (Array.getElem?_eq_some_iff.1 hk).1 fun e=>?_).trans hk
 obtain ⟨cs,ty,fr,h1⟩:=h k e.symm
 rw [hk] at h1
 injection h1 with h1
 subst h1
 cases ho
structure ExtOk (B : Nat) (w0 : World) (ρ : Nat→Value) (h : Nat→LB) (w : World) (i : Nat) (x : Ext) : Prop where
 q : x.Q (ρ i) w
 at_ : ∀ k,x.p (ρ i) k→B ≤ k∧k < w.heap.size∧(x.z = false→w0.heap.size ≤ k)
 no : blkOf (ρ i) = Option.none
 one : (ρ i).oneCell' = true
 apart : ∀ j g,(h j).here→blkOf (ρ j) = some g→¬ x.p (ρ i) g
 two : ∀ j k,j ≠ i→x.p (ρ i) k→¬ (h j).ps (ρ j) k
theorem ExtOk.keep {B : Nat} {w0 w w' : World} {ρ : Nat→Value} {h : Nat→LB} {i : Nat} {x : Ext} (E : ExtOk B w0 ρ h w i x) (hs : w.heap.size ≤ w'.heap.size) (hb : ∀ k,x.p (ρ i) k→w'.heap[k]? = w.heap[k]?) : ExtOk B w0 ρ h w' i x where
 q:=x.st _ _ _ E.q hb
 at_ k hk:=by have:=E.at_ k hk; exact ⟨this.1,by omega,this.2.2⟩
 no:=E.no
 one:=E.one
 apart:=E.apart
 two:=E.two
structure Rel (B : Nat) (w0 : World) (ρ : Nat→Value) (h : Nat→LB) (w : World) : Prop where
 below : Below B w0 w
 gl0 : GlB B w0
 size : B ≤ w.heap.size
 blk : ∀ i t cs,h i = .cells t cs→∃ g vs,ρ i = .pointer (some ⟨g,0,Option.none⟩)∧Blk w g t vs.toArray∧B ≤ g∧DnL (cxOf B ρ h w) cs vs
 row : ∀ i e sz els,h i = .row e sz els→∃ A c css,ρ i = .slice A els.length c∧w.ownsRow B e sz (ρ i) els.length css.flatten∧(∀ x ∈ css,x.length = sz)∧DnLL (cxOf B ρ h w) els css
 sep : ∀ i j g,(h i).here→(h j).here→blkOf (ρ i) = some g→blkOf (ρ j) = some g→i = j
 inj : ∀ i g,(h i).here→blkOf (ρ i) = some g→g < w.heap.size
 oth : Oth w0 w
 ext : ∀ i x,h i = .ext x→ExtOk B w0 ρ h w i x
structure St where
 s : List TV
 h : List LB
 g : List TV
def hf (l : List LB) : Nat→LB:=fun i=>l.getD i .none
structure RelS (B : Nat) (w0 : World) (gh : List Value) (ρ : Nat→Value) (σ : St) (a : Act) (w : World) : Prop where
 slots : DnL (cxOf B ρ (hf σ.h) w) σ.s a.tmps.toList
 ghost : DnL (cxOf B ρ (hf σ.h) w) σ.g gh
 rel : Rel B w0 ρ (hf σ.h) w
 defers : a.defers = []
end Go.Proofs.YtpgfhkbnngjegaaGreatDoor

namespace Go.Proofs.YtpgfhkbnngjegaaGreatDoor
open Go.RowKit
set_option linter.unusedVariables false
theorem own_mono {w : World} {base base' : Nat} {e : TypeId} {size : Nat} {v : Value} {n : Nat} {xs : List Value} (h : w.ownsRow base e size v n xs) (hb : base' ≤ base) : w.ownsRow base' e size v n xs:=by
 obtain ⟨h1,h2⟩:=h
 rcases h2 with h2 | ⟨g,cap,cur,hv,hg,r⟩
 ·exact ⟨h1,.inl h2⟩
 ·exact ⟨h1,.inr ⟨g,cap,cur,hv,by omega,r⟩⟩
theorem own_grown1 {w w' : World} {base g : Nat} {e : TypeId} {size n c : Nat} {A : Option Addr} {xs : List Value} (h : w.ownsRow base e size (.slice A n c) n xs) (hg : w.grownBy w' (some g)) (hA : ∀ ad,A = some ad→ad.block ≠ g) : w'.ownsRow base e size (.slice A n c) n xs:=by
 rcases A with _ | ad
 ·exact h.kept hg (.inl rfl)
 ·exact h.kept hg (.inr (by simp only [Value.ownBlock]; intro e; injection e with e; exact hA ad rfl e))
end Go.Proofs.YtpgfhkbnngjegaaGreatDoor
