/- A drawn region with a chain of operations on one local row, each waiting for the one ahead of it; the others come in any order between them. Condition: the edges that the text says. -/
import Derived.Test.YtpgfhkbnngjegaaGreatDoorT20
import Derived.Test.YtpgfhkbnngjegaaGreatDoorT14
import Derived.Lib.AppendStr
namespace Go.Proofs.YtpgfhkbnngjegaaGreatDoor
open Go.RowKit
set_option linter.unusedVariables false
set_option linter.unusedSimpArgs false
mutual
theorem kp_kp (p : Nat→Bool) : ∀ t : TV,kp p (kp p t) = kp p t
 | .agg ts=>by simp only [kp]; rw [kpL_kp p ts]
 | .tup ts=>by simp only [kp]; rw [kpL_kp p ts]
 | .fn f ts=>by simp only [kp]; rw [kpL_kp p ts]
 | .ptr i off=>by by_cases h : p i = true <;> simp [kp,h]
 | .row i=>by by_cases h : p i = true <;> simp [kp,h]
 | .sl b els=>by simp only [kp]; rw [kpLL_kp p els]
 | .eptr ts=>by simp only [kp]; rw [kpL_kp p ts]
 | .osl e sz els=>by simp only [kp]; rw [kpLL_kp p els]
 | .z i t=>by by_cases h : p i = true <;> simp [kp,h]
 | .win i k sz=>by by_cases h : p i = true <;> simp [kp,h]
 | .any=>by simp only [kp]
 | .v x=>by simp only [kp]
 | .nil_=>by simp only [kp]
theorem kpL_kp (p : Nat→Bool) : ∀ ts : List TV,kpL p (kpL p ts) = kpL p ts
 | []=>by simp only [kpL]
 | t :: ts=>by simp only [kpL]; rw [kp_kp p t,kpL_kp p ts]
theorem kpLL_kp (p : Nat→Bool) : ∀ ts : List (List TV),kpLL p (kpLL p ts) = kpLL p ts
 | []=>by simp only [kpLL]
 | t :: ts=>by simp only [kpLL]; rw [kpL_kp p t,kpLL_kp p ts]
end
theorem run_append_str {P : Program} {w : World} (base : Nat) (t u ty e : TypeId) (i : TypeInfo) (ht : P.underlying t = some (.slice e)) (hu : P.underlying u = some .string) (hi : P.info? e = some i) (hz : i.zero = some (.int .u8 0))
  (hsize : i.size = 1) (hby : i.bytes = 1) {A : Option Addr} {n c : Nat} {xs : List Value} (hown : w.ownsRow base e 1 (.slice A n c) n xs) (s : ByteArray) (hb : n + s.size ≤ 140737488355328) (hbase : base ≤ w.heap.size) :
  ∃ A' c' w',(Builtin.append_ #[t,u] ty #[.slice A n c,.string s]).run P w = .ok (.slice A' (n + s.size) c') w'∧w'.ownsRow base e 1 (.slice A' (n + s.size) c') (n + s.size) (xs ++ Lib.strCells s)∧w.grownBy w' (Value.ownBlock (.slice A n c)) ∧
   (Value.ownBlock (.slice A' (n + s.size) c') = Value.ownBlock (.slice A n c)∨Value.ownBlock (.slice A' (n + s.size) c') = some w.heap.size):=by
 have h63 : n + s.size ≤ maxLen:=by simp only [maxLen]; omega
 obtain ⟨v',w',h1,h2,h3,h4⟩:=Lib.run_append_own_string (P:=P) w base t u ty e i ht hu hi hz hsize hby _ n xs hown s h63 hb hbase
 have hs : ∃ A' c',v' = .slice A' (n + s.size) c':=by
  rcases h2.2 with ⟨rfl,h0⟩ | ⟨g,cap,cur,rfl,_⟩
  ·exact ⟨none,0,by rw [h0]⟩
  ·exact ⟨_,_,rfl⟩
 obtain ⟨A',c',rfl⟩:=hs
 refine ⟨A',c',w',h1,h2,h3,?_⟩
 have hxl : xs.length = n:=by simpa using hown.1
 rcases hown.2 with ⟨hv,h0⟩ | ⟨g,cap,cur,hv,hbg,hg,hnc,hcm,hcs,htake⟩
 ·injection hv with e1 e2 e3
  subst e1 e3
  by_cases hm : s.size = 0
  ·have:=h4.2 ⟨by rw [e2],hm⟩
   rw [this,e2]; exact .inl rfl
  ·subst e2
   have hr:=run_append_nil_string (P:=P) w t u ty e i (.int .u8 0) ht hu hi hz s (by omega) (by omega) (by rw [hby]; omega)
   rw [hr] at h1
   injection h1 with h1 _
   right
   rw [← h1]
   rfl
 ·injection hv with e1 e2 e3
  subst e1 e3
  by_cases hroom : n + s.size ≤ c
  ·have hcs' : cur.size = c:=by simpa using hcs
   have hr:=Lib.run_append_room_string (P:=P) w t u ty e i ht hu hi hsize g n c cur hg s hroom (by omega)
   rw [hr] at h1
   injection h1 with h1 _
   left
   rw [← h1]
   rfl
  ·have holds : ∀ j u,xs[j]? = some u→w.cell? ((⟨g,0,none⟩ : Addr).add j) = some u:=hown.cells (g:=g) rfl
   have hr:=Lib.run_append_grow_string (P:=P) w t u ty e i (.int .u8 0) ht hu hi hz ⟨g,0,none⟩ n c xs (by rw [hsize]; simpa using hxl) holds s (by omega) (by omega) (by rw [hby]; exact growslice_fits (by omega) (by omega))
   rw [hr] at h1
   injection h1 with h1 _
   right
   rw [← h1]
   rfl
def RowF (P : Program) (B : Nat) (w0 : World) (i : Nat) (o : Oper) (s : List TV) (h : List LB) (sl : Operand) (r r' : LB) : Prop:=
 ∀ (ρ : Nat→Value) (H : Nat→LB) (w : World) (a : Act),HS h H→H i = r→Rel B w0 ρ H w→(∀ k,k ≠ i→(H k).kp (bar i) = H k)→Dn (cxOf B ρ H w) (.row i) (a.eval sl)→(∀ x ∈ o.op.operands.toList,x ≠ sl→Dn (cxOf B ρ H w) (tev s x) (a.eval x)) →
 ∀ (K : Act→World→Prop) (Q : Exit→Act→World→Prop),
  (∀ u w' ρ',Rel B w0 ρ' (updf H i r') w'→Keeps ((cxOf B ρ H w).less (bar i)) (cxOf B ρ' (updf H i r') w')→Dn (cxOf B ρ' (updf H i r') w') (.row i) u→K (a.put o.dst u) w')→o.wp P a w K Q
section
variable {P : Program} {B : Nat} {w0 : World} {gh : List Value} {l : List Oper}
theorem Keeps.lessen {C : Cx} (p : Nat→Bool) : Keeps (C.less p) C:=⟨fun k h hk=>⟨rfl,h,hk⟩,Nat.le_refl _,fun i h=>⟨h.1,rfl⟩,fun u e sz n xs h=>h,fun i k h hz hk=>⟨rfl,hz,hk⟩⟩
theorem RowF.move {i : Nat} {o : Oper} {s : List TV} {h : List LB} {sl : Operand} {r : LB} (ho : o.op = .move sl) : RowF P B w0 i o s h sl r r:=by
 intro ρ H w a _ hi R _ hs _ K Q hK
 have e : updf H i r = H:=updf_self _ _ _ hi
 unfold Oper.wp
 rw [show (execOp a.eval o).run P w = .ok (.value (a.eval sl)) w by simp [execOp,ho]]
 exact hK _ w ρ (by rw [e]; exact R) (by rw [e]; exact .lessen _) (by rw [e]; exact hs)
theorem row_renew {ρ : Nat→Value} {H : Nat→LB} {w w' : World} {i : Nat} {e0 : TypeId} {sz : Nat} {els els' : List (List TV)} {A A' : Option Addr} {c c' : Nat} {css css' : List (List Value)} (R : Rel B w0 ρ H w) (hi : H i = .row e0 sz els) (hst : ∀ k,k ≠ i→(H k).kp (bar i) = H k)
  (r1 : ρ i = .slice A els.length c) (r2 : w.ownsRow B e0 sz (.slice A els.length c) els.length css.flatten) (hown : w'.ownsRow B e0 sz (.slice A' els'.length c') els'.length css'.flatten) (hgr : w.grownBy w' (Value.ownBlock (.slice A els.length c)))
  (hor : Value.ownBlock (.slice A' els'.length c') = Value.ownBlock (.slice A els.length c)∨Value.ownBlock (.slice A' els'.length c') = some w.heap.size) (r3 : ∀ y ∈ css',y.length = sz) (r4 : DnLL (cxOf B ρ H w) els' css') (hk : kpLL (bar i) els' = els') :
  ∃ ρ',Rel B w0 ρ' (updf H i (.row e0 sz els')) w'∧Keeps ((cxOf B ρ H w).less (bar i)) (cxOf B ρ' (updf H i (.row e0 sz els')) w')∧Dn (cxOf B ρ' (updf H i (.row e0 sz els')) w') (.row i) (.slice A' els'.length c'):=by
 have hhere : (H i).here:=by rw [hi]; trivial
 have hblk : blkOf (ρ i) = Value.ownBlock (.slice A els.length c):=by rw [r1]; cases A <;> rfl
 have hown' : blkOf (.slice A' els'.length c') = Value.ownBlock (.slice A' els'.length c'):=by cases A' <;> rfl
 have hBn : ∀ g,blkOf (ρ i) = some g→B ≤ g:=fun g hgg=>by
  rw [hblk] at hgg
  exact (r2.lt g hgg).1
 have hr' : ∀ g,blkOf (.slice A' els'.length c') = some g→g < w'.heap.size∧(blkOf (ρ i) = some g∨w.heap.size ≤ g):=fun g hgg=>by
  rw [hown'] at hgg
  refine ⟨(hown.lt g hgg).2,?_⟩
  rw [hblk]
  rcases hor with h1 | h1
  ·exact .inl (h1 ▸ hgg)
  ·rw [h1] at hgg
   injection hgg with hgg
   exact .inr (by omega)
 have hgr' : w.grownBy w' (blkOf (ρ i)):=by rw [hblk]; exact hgr
 have eH : updf (fun j=>(H j).kp (bar i)) i (.row e0 sz els') = updf H i (.row e0 sz els'):=by
  funext k
  by_cases hki : k = i
  ·subst hki; rw [updf_same,updf_same]
  ·rw [updf_ne _ _ hki,updf_ne _ _ hki,hst k hki]
 have KK : Keeps ((cxOf B ρ H w).less (bar i)) (cxOf B (updf ρ i (.slice A' els'.length c')) (updf (fun j=>(H j).kp (bar i)) i (.row e0 sz els')) w'):=.renew hhere hgr' (fun g hgg=>(hr' g hgg).2)
 refine ⟨updf ρ i (.slice A' els'.length c'),?_,by rw [← eH]; exact KK,?_⟩
 ·rw [← eH]
  refine R.renew hhere hgr' hBn hr' (fun t cs e=>by cases e) (fun e sz els2 e'=>?_)
  injection e' with e2 e3 e4
  subst e2 e3 e4
  refine ⟨A',c',css',rfl,hown,r3,?_⟩
  have:=DnLL.keep KK _ _ (DnLL.kp (bar i) _ _ r4)
  rwa [hk] at this
 ·simp only [Dn]
  refine ⟨?_,?_⟩
  ·show LB.here (updf _ i _ i)
   rw [updf_same]; trivial
  ·show _ = updf ρ i _ i
   rw [updf_same]
def ElemsF (s : List TV) (h : List LB) (x : Operand) (ys : List (List TV)) : Prop:=
 (∃ b,tev s x = .sl b ys)∨(∃ j e sz,tev s x = .row j∧hf h j = .row e sz ys)∨(tev s x = .nil_∧ys = [])
theorem elemsF_sees {s : List TV} {h : List LB} {ρ : Nat→Value} {H : Nat→LB} {a : Act} {w : World} (R : Rel B w0 ρ H w) (hS : HS h H) {x : Operand} (hd : Dn (cxOf B ρ H w) (tev s x) (a.eval x)) {ys : List (List TV)} {sz : Nat} (hx : ElemsF s h x ys) (hs : ∀ c ∈ ys,c.length = sz) (h0 : 0 < sz) :
  ∃ A c css,a.eval x = .slice A ys.length c∧Sees w none sz A ys.length css.flatten∧DnLL (cxOf B ρ H w) ys css∧∀ x ∈ css,x.length = sz:=by
 have h1:=hd
 rcases hx with ⟨b,hx⟩ | ⟨j,e,sz',hx,hj⟩ | ⟨hx,rfl⟩
 ·rw [hx] at h1
  obtain ⟨A,c,css,r1,_,_,r2,r3,r4⟩:=dn_sees h1 hs h0
  exact ⟨A,c,css,r1,r2,r3,r4⟩
 ·rw [hx] at h1
  simp only [Dn] at h1
  obtain ⟨A,c,css,r1,r2,r3,r4⟩:=R.row j _ _ _ (hS.same hj (by simp) h1.1)
  have hu : a.eval x = .slice A ys.length c:=h1.2.trans r1
  rw [r1] at r2
  rcases Nat.eq_zero_or_pos ys.length with hy | hy
  ·have hys:=List.eq_nil_of_length_eq_zero hy
   subst hys
   have hc:=r4.len
   have hcss:=List.eq_nil_of_length_eq_zero hc
   subst hcss
   refine ⟨A,c,[],hu,⟨by simp,fun _=>rfl,fun ad _=>⟨fun hn=>by simp at hn,fun j u hu=>by simp at hu⟩⟩,r4,by simp⟩
  ·have hsz : sz' = sz:=by
    have hel : 0 < ys.length:=hy
    obtain ⟨cv,h8,h9⟩:=r4.at_ 0 ys[0] (List.getElem?_eq_getElem hel)
    rw [← r3 cv (List.mem_of_getElem? h8),h9.len,hs _ (List.getElem_mem hel)]
   subst hsz
   have hS:=Sees.of_own r2
   exact ⟨A,c,css,hu,⟨hS.1,hS.2.1,fun ad ha=>⟨fun hn=>by obtain ⟨cur,t,fz,hc,_⟩:=(hS.2.2 ad ha).1 hn; exact ⟨cur,t,fz,hc,fun _ h=>by cases h⟩,(hS.2.2 ad ha).2⟩⟩,r4,r3⟩
 ·rw [hx] at h1
  simp only [Dn] at h1
  exact ⟨none,0,[],h1,by simpa using Sees.nil w none sz,by simp [DnLL],by simp⟩
theorem RowF.app {i : Nat} {o : Oper} {s : List TV} {h : List LB} {sl x : Operand} {t : TypeId} {ti te : TI} {cl : Call} {els ys els' : List (List TV)} (ho : o.op = .call cl) (hcl : cl = { callee:=.builtin .append,args:=#[sl,x],argTypes:=#[t,t] }) (T : ApTy P t ti te) (hne : x ≠ sl)
  (hx : ElemsF s h x ys) (hlen : ∀ c ∈ ys,c.length = te.n) (hone : ∀ c ∈ ys,c.all TV.one = true) (hbd : (els.length + ys.length) * te.by_ ≤ 140737488355328) (he : els ++ ys = els') (hk : kpLL (bar i) els' = els') : RowF P B w0 i o s h sl (.row ti.el te.n els) (.row ti.el te.n els'):=by
 intro ρ H w a hS hi R hst hs hx' K Q hK
 subst he
 simp only [Dn] at hs
 obtain ⟨A,c,css,r1,r2,r3,r4⟩:=R.row i _ _ _ hi
 have hu : a.eval sl = .slice A els.length c:=hs.2.trans r1
 rw [r1] at r2
 obtain ⟨A2,c2,css2,s1,s2,s3,s4⟩:=elemsF_sees R hS (hx' x (by simp [ho,hcl,Op.operands,Call.operands]) hne) hx hlen T.hn
 obtain ⟨z,E⟩:=T.elem
 obtain ⟨A',c',w',hrun,hown,hgr,hor⟩:=run_append_sees (P:=P) E o.type (d:=c2) r2 s2 (elems_one R s3 hone) hbd R.size
 have hl : (els ++ ys).length = els.length + ys.length:=by simp
 obtain ⟨ρ',q1,q2,q3⟩:=row_renew R hi hst r1 r2 (els':=els ++ ys) (css':=css ++ css2) (A':=A') (c':=c') (w':=w') (by rw [hl,List.flatten_append]; exact hown) hgr (by rw [hl]; exact hor) (fun y hy=>by
  rcases List.mem_append.1 hy with hy | hy
  ·exact r3 y hy
  ·exact s4 y hy) (r4.append s3) hk
 unfold Oper.wp execOp
 simp only [ho,hcl,resolve,invoke,builtin,Sem.run_bind,Sem.run_pure,Result.andThen_ok,List.map_toArray,List.map_cons,List.map_nil,hu,s1,hrun]
 rw [hl] at q3
 exact hK _ _ ρ' q1 q2 q3
def strE (s : ByteArray) : List (List TV):=s.data.toList.map fun b=>[.v (.int .u8 b.toNat)]
theorem strE_len (s : ByteArray) : (strE s).length = s.size:=by rw [strE,List.length_map,Array.length_toList]; rfl
theorem strE_dn (C : Cx) : ∀ (l : List UInt8),DnLL C (l.map fun b=>[.v (.int .u8 b.toNat)]) (l.map fun b=>[Value.int .u8 b.toNat])
 | []=>by simp [DnLL]
 | b :: l=>by
  simp only [List.map_cons,DnLL]
  exact ⟨_,_,rfl,.cons (by simp [Dn]) .nil,strE_dn C l⟩
theorem RowF.str {i : Nat} {o : Oper} {s : List TV} {h : List LB} {sl x : Operand} {t t2 e0 : TypeId} {inf : TypeInfo} {cl : Call} {els els' : List (List TV)} {u : ByteArray} (ho : o.op = .call cl) (hcl : cl = { callee:=.builtin .append,args:=#[sl,x],argTypes:=#[t,t2] }) (ht : P.underlying t = some (.slice e0)) (hu : P.underlying t2 = some .string) (hi0 : P.info? e0 = some inf)
  (hz : inf.zero = some (.int .u8 0)) (hsize : inf.size = 1) (hby : inf.bytes = 1) (hne : x ≠ sl) (hx : tev s x = .v (.string u)) (hbd : els.length + u.size ≤ 140737488355328) (he : els ++ strE u = els') (hk : kpLL (bar i) els' = els') : RowF P B w0 i o s h sl (.row e0 1 els) (.row e0 1 els'):=by
 intro ρ H w a hS hi R hst hs hx' K Q hK
 subst he
 simp only [Dn] at hs
 obtain ⟨A,c,css,r1,r2,r3,r4⟩:=R.row i _ _ _ hi
 have hus : a.eval sl = .slice A els.length c:=hs.2.trans r1
 rw [r1] at r2
 have h1:=hx' x (by simp [ho,hcl,Op.operands,Call.operands]) hne
 rw [hx] at h1
 simp only [Dn] at h1
 obtain ⟨A',c',w',hrun,hown,hgr,hor⟩:=run_append_str (P:=P) B t t2 o.type e0 inf ht hu hi0 hz hsize hby r2 u hbd R.size
 have hl : (els ++ strE u).length = els.length + u.size:=by rw [List.length_append,strE_len]
 obtain ⟨ρ',q1,q2,q3⟩:=row_renew R hi hst r1 r2 (els':=els ++ strE u) (css':=css ++ u.data.toList.map fun b=>[Value.int .u8 b.toNat]) (A':=A') (c':=c') (w':=w') (by
   rw [hl,List.flatten_append]
   have : (u.data.toList.map fun b=>[Value.int .u8 b.toNat]).flatten = Lib.strCells u:=by
    unfold Lib.strCells
    induction u.data.toList with
    | nil=>rfl
    | cons x l ih=>simp [ih]
   rw [this]; exact hown) hgr (by rw [hl]; exact hor) (fun y hy=>by
  rcases List.mem_append.1 hy with hy | hy
  ·exact r3 y hy
  ·obtain ⟨b,_,rfl⟩:=List.mem_map.1 hy; rfl) (r4.append (strE_dn _ _)) hk
 unfold Oper.wp execOp
 simp only [ho,hcl,resolve,invoke,builtin,Sem.run_bind,Sem.run_pure,Result.andThen_ok,List.map_toArray,List.map_cons,List.map_nil,hus,h1,hrun]
 rw [hl] at q3
 exact hK _ _ ρ' q1 q2 q3
end
end Go.Proofs.YtpgfhkbnngjegaaGreatDoor

namespace Go.Proofs.YtpgfhkbnngjegaaGreatDoor
open Go.RowKit
set_option linter.unusedVariables false
set_option linter.unusedSimpArgs false
section
variable {P : Program} {B : Nat} {w0 : World} {gh : List Value} {l m : List Oper}
variable {S : Nat→List TV} {H : Nat→List LB} {V : Nat→TV} {N : Nat→Option LB} {b st : Nat→Bool} {ix : Nat→Nat}
theorem hD_set (R : Runs P B w0 l m S H V N b st) (hinj : ∀ p q,p < m.length→q < m.length→ix p = ix q→p = q) {listed : Array Bool} {i : Nat} (hi : i < m.length) (hiS : ix i < listed.size) :
  hD m.length ix H N (listed.setIfInBounds (ix i) true) = addf (hD m.length ix H N listed) (H i).length (N i):=by
 have hset : ∀ j,j < m.length→j ≠ i→(listed.setIfInBounds (ix i) true).getD (ix j) false = listed.getD (ix j) false:=fun j hjn hj=>getD_set_ne false (fun e=>hj (hinj _ _ hi hjn e).symm)
 funext k
 cases hN : N i with
 | none=>
  simp only [addf]
  unfold hD
  congr 2
  apply propext
  constructor
  ·rintro ⟨j,h1,h2,h3,h4⟩
   by_cases hji : j = i
   ·subst hji; rw [hN] at h3; cases h3
   ·exact ⟨j,h1,by rw [← hset j h1 hji]; exact h2,h3,h4⟩
  ·rintro ⟨j,h1,h2,h3,h4⟩
   by_cases hji : j = i
   ·subst hji; rw [hN] at h3; cases h3
   ·exact ⟨j,h1,by rw [hset j h1 hji]; exact h2,h3,h4⟩
 | some x=>
  simp only [addf]
  obtain ⟨hs1,hs2⟩:=R.succ hi hN
  have hm0:=R.mono (Nat.zero_le i) (by omega)
  by_cases hk : k = (H i).length
  ·subst hk
   rw [updf_same]
   unfold hD
   rw [if_neg (by omega),if_pos ⟨i,hi,getD_set_self hiS,by rw [hN]; rfl,rfl⟩,R.pre' (show i + 1 ≤ m.length by omega) (Nat.le_refl _) (by omega)]
   exact hs2
  ·rw [updf_ne _ _ hk]
   unfold hD
   congr 2
   apply propext
   constructor
   ·rintro ⟨j,h1,h2,h3,h4⟩
    by_cases hji : j = i
    ·subst hji; exact absurd h4.symm hk
    ·exact ⟨j,h1,by rw [← hset j h1 hji]; exact h2,h3,h4⟩
   ·rintro ⟨j,h1,h2,h3,h4⟩
    by_cases hji : j = i
    ·subst hji; exact absurd h4.symm hk
    ·exact ⟨j,h1,by rw [hset j h1 hji]; exact h2,h3,h4⟩
theorem hD_new (R : Runs P B w0 l m S H V N b st) {listed : Array Bool} {i : Nat} (hi : i < m.length) (hlf : listed.getD (ix i) false = false) (h1 : (N i).isSome = true) : hD m.length ix H N listed (H i).length = .none:=by
 unfold hD
 have hm0:=R.mono (Nat.zero_le i) (by omega)
 rw [if_neg (by omega),if_neg]
 rintro ⟨j,h2,h3,h4,h5⟩
 have hji : j ≠ i:=by rintro rfl; rw [hlf] at h3; cases h3
 obtain ⟨x1,hx1⟩:=Option.isSome_iff_exists.1 h4
 obtain ⟨x2,hx2⟩:=Option.isSome_iff_exists.1 h1
 rcases Nat.lt_or_ge j i with h6 | h6
 ·have h7:=(R.succ h2 hx1).1
  have h8:=R.mono (show j + 1 ≤ i by omega) (by omega)
  omega
 ·have h7:=(R.succ hi hx2).1
  have h8:=R.mono (show i + 1 ≤ j by omega) (by omega)
  omega
theorem hD_HS (R : Runs P B w0 l m S H V N b st) {listed : Array Bool} {i : Nat} (hi : i ≤ m.length) : HS (H i) (hD m.length ix H N listed):=by
 intro k hk _
 unfold hD
 split
 ·rename_i h0
  exact .inr (R.pre' (Nat.zero_le i) hi h0).symm
 ·split
  ·exact .inr (R.pre' hi (Nat.le_refl _) hk)
  ·exact .inl rfl
theorem hD_at (R : Runs P B w0 l m S H V N b st) {listed : Array Bool} (k : Nat) : hD m.length ix H N listed k = .none∨hD m.length ix H N listed k = hf (H m.length) k:=by
 unfold hD
 split
 ·rename_i h0
  exact .inr (R.pre' (Nat.zero_le _) (Nat.le_refl _) h0).symm
 ·split
  ·exact .inr rfl
  ·exact .inl rfl
theorem hD_all (R : Runs P B w0 l m S H V N b st) {listed : Array Bool} (hl : ∀ p,p < m.length→listed.getD (ix p) false = true) : hD m.length ix H N listed = hf (H m.length):=by
 funext k
 unfold hD
 split
 ·rename_i h0
  exact (R.pre' (Nat.zero_le m.length) (Nat.le_refl _) h0).symm
 ·rename_i h0
  split
  ·rfl
  ·rename_i h1
   rcases Nat.lt_or_ge k (H m.length).length with h2 | h2
   ·exfalso
    have : ∀ d,d ≤ m.length→k < (H d).length→∃ i,i < m.length∧listed.getD (ix i) false = true∧(N i).isSome = true∧(H i).length = k:=by
     intro d
     induction d with
     | zero=>intro _ h3; exact absurd h3 h0
     | succ d ih=>
      intro hd h3
      rcases Nat.lt_or_ge k (H d).length with h4 | h4
      ·exact ih (by omega) h4
      ·obtain ⟨_,_,_,_,h5⟩:=R.step d (m[d]'(by omega)) (by omega) (List.getElem?_eq_getElem _)
       cases hN : N d with
       | none=>rw [h5,hN] at h3; simp only [addO] at h3; omega
       | some x=>
        have:=(R.succ (by omega) hN).1
        exact ⟨d,by omega,hl d (by omega),by rw [hN]; rfl,by omega⟩
    exact h1 (this m.length (Nat.le_refl _) h2)
   ·exact (hf_ge h2).symm
theorem addf_upd {D : Nat→LB} {n i : Nat} {lb : LB} {x : Option LB} (h : n ≠ i) : addf (updf D i lb) n x = updf (addf D n x) i lb:=by
 cases x with
 | none=>rfl
 | some y=>
  funext k
  simp only [addf]
  by_cases h1 : k = n
  ·subst h1; rw [updf_same,updf_ne _ _ h,updf_same]
  ·rw [updf_ne _ _ h1]
   by_cases h2 : k = i
   ·subst h2; rw [updf_same,updf_same]
   ·rw [updf_ne _ _ h2,updf_ne _ _ h2,updf_ne _ _ h1]
def PIo (B : Nat) (w0 : World) (gh : List Value) (m : List Oper) (ix : Nat→Nat) (H : Nat→List LB) (V : Nat→TV) (N : Nat→Option LB) (i : Nat) (lb : LB) (s0 g : List TV) (ρ : Nat→Value) (listed : Array Bool) (a : Act) (w : World) : Prop:=
 Rel B w0 ρ (updf (hD m.length ix H N listed) i lb) w∧DnL (cxOf B ρ (updf (hD m.length ix H N listed) i lb) w) g gh∧a.tmps.size = s0.length∧a.defers = [] ∧
  ∀ (t : Nat) (u : Value),a.tmps[t]? = some u→(∀ (p : Nat) (o : Oper),p < m.length→m[p]? = some o→o.dst = some t→listed.getD (ix p) false = true→Dn (cxOf B ρ (updf (hD m.length ix H N listed) i lb) w) (V p) u) ∧
   ((∀ (p : Nat) (o : Oper),p < m.length→m[p]? = some o→o.dst = some t→listed.getD (ix p) false = false)→Dn (cxOf B ρ (updf (hD m.length ix H N listed) i lb) w) (s0.getD t .any) u)
theorem side_core {Q : Exit→Act→World→Prop} (R : Runs P B w0 l m S H V N b st) (hb1 : ∀ p,p < m.length→b p = true) (hst0 : ∀ p,st p = false) (hp : parB l m ix = true) (hix : ∀ (p : Nat) (o : Oper),m[p]? = some o→l[ix p]? = some o) (hinj : ∀ p q,p < m.length→q < m.length→ix p = ix q→p = q)
  {i : Nat} {lb : LB} {s0 g : List TV} (hi0 : i < (H 0).length) (hin : hf (H 0) i = .none) (hsl : s0.length = (S 0).length) (hs0 : ∀ (p : Nat) (o : Oper) (t : Nat),m[p]? = some o→t ∈ readsOf l o→(∀ (q : Nat) (oq : Oper),m[q]? = some oq→oq.dst ≠ some t)→s0.getD t .any = (S 0).getD t .any) (hg0 : ∀ (p : Nat) (o : Oper),m[p]? = some o→o.guard = none)
  {ρ : Nat→Value} {listed : Array Bool} {a : Act} {w : World} {p : Nat} (hsize : listed.size = l.length) (hI : PIo B w0 gh m ix H V N i lb s0 g ρ listed a w) (hi : p < m.length) (hl : listed.getD (ix p) true = false)
  (hdeps : ∀ o,l.toArray[ix p]? = some o→∀ e ∈ o.after,Region.binds .any e = true→listed.getD e.on false = true) :
  wpOp P l.toArray Q (ix p) (fun a' w'=>∃ ρ',PIo B w0 gh m ix H V N i lb s0 g ρ' (listed.setIfInBounds (ix p) true) a' w') a w:=by
 obtain ⟨hR,hgh,hsz,hdf,hpt⟩:=hI
 obtain ⟨o,ho'⟩ : ∃ o,m[p]? = some o:=⟨m[p]'hi,List.getElem?_eq_getElem _⟩
 have hol:=hix p o ho'
 have hoa : l.toArray[ix p]? = some o:=by simpa using hol
 have hiS : ix p < listed.size:=by rw [hsize]; exact (List.getElem?_eq_some_iff.1 hol).1
 have hlf : listed.getD (ix p) false = false:=by simp only [Array.getD,hiS,dite_true] at hl ⊢; exact hl
 obtain ⟨hw,hst,hsk,hS1,hH1⟩:=R.step p o hi ho'
 have hset : ∀ j,j < m.length→j ≠ p→(listed.setIfInBounds (ix p) true).getD (ix j) false = listed.getD (ix j) false:=fun j hjn hj=>getD_set_ne false (fun e=>hj (hinj _ _ hi hjn e).symm)
 have hread : ∀ t : Nat,t ∈ readsOf l o→Dn (cxOf B ρ (updf (hD m.length ix H N listed) i lb) w) (tev (S p) (.tmp t)) (a.tmps.getD t undef):=by
  intro t ht
  rcases Nat.lt_or_ge t (S 0).length with htl | htl
  ·have hta : t < a.tmps.size:=by omega
   have hu : a.tmps[t]? = some (a.tmps.getD t undef):=by simp [hta]
   obtain ⟨q1,q2⟩:=hpt t _ hu
   rcases R.slot htl p (by omega) with ⟨j,oj,h1,h2,h3,h4⟩ | ⟨h1,h2⟩
   ·have h5 : tev (S p) (.tmp t) = V j:=by simp [tev,List.getD,h4]
    rw [h5]
    obtain ⟨e,he,h6,h7⟩:=((parB_spec hp hi (by omega) ho' h2 h3).1 ht).2
    exact q1 j oj (by omega) h2 h3 (by rw [← h6]; exact hdeps o hoa e he h7)
   ·have h5 : tev (S p) (.tmp t) = (S 0).getD t .any:=by simp [tev,List.getD,h2]
    have hno : ∀ (j : Nat) (oj : Oper),m[j]? = some oj→oj.dst ≠ some t:=fun j oj hoj hd=>by
     have hj:=(List.getElem?_eq_some_iff.1 hoj).1
     have h6:=(parB_spec hp hi hj ho' hoj hd).1 ht
     exact h1 j oj h6.1 hoj hd
    rw [h5,← hs0 p o t ho' ht hno]
    exact q2 fun j oj hj hoj hd=>absurd hd (hno j oj hoj)
  ·have hSi:=R.slen p (by omega)
   have : tev (S p) (.tmp t) = .any:=by simp [tev,List.getD,List.getElem?_eq_none (show (S p).length ≤ t by omega)]
   rw [this]
   simp [Dn]
 have hopnd : ∀ x ∈ o.op.operands.toList,Dn (cxOf B ρ (updf (hD m.length ix H N listed) i lb) w) (tev (S p) x) (a.eval x):=by
  intro x hx
  cases x with
  | tmp t=>exact hread t (by unfold readsOf; exact List.mem_append_left _ (mem_tmpsOf hx))
  | const v=>exact ofV_dn _ v
  | global g=>simp [tev,Act.eval,Dn]
  | func f=>
   simp only [tev,Act.eval,Dn]
   exact ⟨[],rfl,DnL.nil⟩
 have hip : i < (H p).length:=Nat.lt_of_lt_of_le hi0 (R.mono (Nat.zero_le p) (by omega))
 have hHS : HS (H p) (updf (hD m.length ix H N listed) i lb):=by
  intro k hk hnn
  have hki : k ≠ i:=by
   rintro rfl
   rw [R.pre' (Nat.zero_le p) (by omega) hi0] at hnn
   exact hnn hin
  rw [updf_ne _ _ hki]
  exact hD_HS R (by omega) k hk hnn
 have hne : (H p).length ≠ i:=by omega
 have hDset : updf (hD m.length ix H N (listed.setIfInBounds (ix p) true)) i lb = addf (updf (hD m.length ix H N listed) i lb) (H p).length (N p):=by
  rw [hD_set R hinj hi hiS,addf_upd hne]
 have hnew : (N p).isSome = true→updf (hD m.length ix H N listed) i lb (H p).length = .none:=fun h1=>by
  rw [updf_ne _ _ hne]; exact hD_new R hi hlf h1
 have hfin : ∀ (u : Value) (w' : World) (ρ' : Nat→Value),Rel B w0 ρ' (addf (updf (hD m.length ix H N listed) i lb) (H p).length (N p)) w'→Keeps (cxOf B ρ (updf (hD m.length ix H N listed) i lb) w) (cxOf B ρ' (addf (updf (hD m.length ix H N listed) i lb) (H p).length (N p)) w') →
   Dn (cxOf B ρ' (addf (updf (hD m.length ix H N listed) i lb) (H p).length (N p)) w') (V p) u→∃ ρ',PIo B w0 gh m ix H V N i lb s0 g ρ' (listed.setIfInBounds (ix p) true) (a.put o.dst u) w':=by
  intro u w' ρ' hR' KK hd
  refine ⟨ρ',?_⟩
  unfold PIo
  rw [hDset]
  refine ⟨hR',DnL.keep KK _ _ hgh,?_,by rw [put_defers]; exact hdf,fun t v ht=>?_⟩
  ·rw [← hsz]
   cases hd' : o.dst with
   | none=>rfl
   | some d=>simp [Act.put]
  ·by_cases hdt : o.dst = some t
   ·have hv : v = u:=by
     rw [hdt] at ht
     simp only [Act.put,Array.getElem?_setIfInBounds_self] at ht
     split at ht
     ·injection ht with ht; exact ht.symm
     ·cases ht
    subst hv
    refine ⟨fun j oj hj hoj hdj _=>?_,fun hall=>?_⟩
    ·by_cases hji : j = p
     ·subst hji; exact hd
     ·exact absurd hdt ((parB_spec hp hi hj ho' hoj hdj).2 (fun e=>hji e.symm))
    ·have:=hall p o hi ho' hdt
     rw [getD_set_self hiS] at this
     cases this
   ·have ht' : a.tmps[t]? = some v:=by
     cases hd' : o.dst with
     | none=>rw [hd'] at ht; exact ht
     | some d=>
      rw [hd'] at ht
      simp only [Act.put] at ht
      rw [Array.getElem?_setIfInBounds_ne (fun e=>hdt (by rw [hd',e]))] at ht
      exact ht
    obtain ⟨q1,q2⟩:=hpt t v ht'
    refine ⟨fun j oj hj hoj hdj hlj=>?_,fun hall=>?_⟩
    ·have hji : j ≠ p:=by
      rintro rfl
      rw [ho'] at hoj
      injection hoj with hoj
      subst hoj
      exact hdt hdj
     exact Dn.keep KK _ _ (q1 j oj hj hoj hdj (by rw [← hset j hj hji]; exact hlj))
    ·refine Dn.keep KK _ _ (q2 fun j oj hj hoj hdj=>?_)
     have hji : j ≠ p:=by
      rintro rfl
      rw [ho'] at hoj
      injection hoj with hoj
      subst hoj
      exact hdt hdj
     have:=hall j oj hj hoj hdj
     rwa [hset j hj hji] at this
 refine wpOp_step hoa fun K hK=>?_
 rw [show Region.wanted o (yielded l.toArray a.tmps) = true by simp [Region.wanted,hg0 p o ho']]
 simp only [if_true]
 exact hst (hb1 p hi) (hst0 p) ρ (updf (hD m.length ix H N listed) i lb) w a hHS hnew hR hopnd K Q fun u w' ρ' hR' KK hbl hd=>hK _ _ (hfin u w' ρ' hR' KK hd)
end
def TPc (P : Program) (B : Nat) (w0 : World) (i : Nat) : List Oper→List TV→List LB→(List TV→List LB→Prop)→Prop
 | [],s,h,K=>K s h
 | o :: rest,s,h,K=>∃ tv new,o.guard = none∧TStep P B w0 h s o tv new∧(∀ x ∈ o.op.operands.toList,kp (bar i) (tev s x) = tev s x)∧kp (bar i) tv = tv∧TPc P B w0 i rest (putO s o.dst tv) (addO h new) K
theorem runs_c {P : Program} {B : Nat} {w0 : World} {i : Nat} : ∀ (rest : List Oper) (s : List TV) (h : List LB) (K : List TV→List LB→Prop),TPc P B w0 i rest s h K →
  ∃ (S : Nat→List TV) (H : Nat→List LB) (V : Nat→TV) (N : Nat→Option LB),S 0 = s∧H 0 = h∧K (S rest.length) (H rest.length)∧∀ (p : Nat) (o : Oper),rest[p]? = some o→o.guard = none∧TStep P B w0 (H p) (S p) o (V p) (N p)∧(∀ x ∈ o.op.operands.toList,kp (bar i) (tev (S p) x) = tev (S p) x)∧kp (bar i) (V p) = V p∧S (p + 1) = putO (S p) o.dst (V p)∧H (p + 1) = addO (H p) (N p)
 | [],s,h,K,hp=>⟨fun _=>s,fun _=>h,fun _=>.any,fun _=>none,rfl,rfl,hp,fun p o hh=>(by simp at hh)⟩
 | o :: rest,s,h,K,⟨tv,new,h1,h2,h3,h4,h5⟩=>by
  obtain ⟨S,H,V,N,e1,e2,e3,e4⟩:=runs_c rest _ _ K h5
  refine ⟨fun p=>match p with | 0=>s | p + 1=>S p,fun p=>match p with | 0=>h | p + 1=>H p,fun p=>match p with | 0=>tv | p + 1=>V p,fun p=>match p with | 0=>new | p + 1=>N p,rfl,rfl,e3,fun p o' ho=>?_⟩
  cases p with
  | zero=>
   simp only [List.getElem?_cons_zero,Option.some.injEq] at ho
   subst ho
   exact ⟨h1,h2,h3,h4,e1,e2⟩
  | succ p=>
   simp only [List.getElem?_cons_succ] at ho
   exact e4 p o' ho
def slotC (i : Nat) (ds : List Nat) (s : List TV) : Nat→List TV
 | 0=>s
 | c + 1=>(List.range s.length).map fun t=>if ds[c]? = some t then .row i else if (ds.take c).contains t then .any else kp (bar i) (s.getD t .any)
theorem slotC_len (i : Nat) (ds : List Nat) (s : List TV) (c : Nat) : (slotC i ds s c).length = s.length:=by cases c <;> simp [slotC]
theorem slotC_at {i : Nat} {ds : List Nat} {s : List TV} {c t : Nat} (ht : t < s.length) : (slotC i ds s (c + 1)).getD t .any = if ds[c]? = some t then .row i else if (ds.take c).contains t then .any else kp (bar i) (s.getD t .any):=by
 unfold slotC
 rw [List.getD_eq_getElem?_getD,List.getElem?_map,List.getElem?_range ht]
 rfl
def endC (i : Nat) (ds : List Nat) (s : List TV) : List TV:=((ds.dropLast.foldl (fun s d=>s.set d .any) (kpL (bar i) s))).set (ds.getLastD 0) (.row i)
theorem fold_any : ∀ (ds : List Nat) (s : List TV) (t : Nat),(ds.foldl (fun s d=>s.set d .any) s).getD t .any = if ds.contains t then .any else s.getD t .any
 | [],s,t=>by simp
 | d :: ds,s,t=>by
  rw [List.foldl_cons,fold_any ds]
  by_cases h : ds.contains t = true
  ·have h' : t ∈ ds:=by simpa using h
   simp [h']
  ·by_cases hd : t = d
   ·subst hd
    simp only [List.contains_cons,beq_self_eq_true,Bool.true_or,if_true,h,Bool.false_eq_true,if_false]
    rcases Nat.lt_or_ge t s.length with h1 | h1
    ·simp [List.getD,h1]
    ·simp [List.getD,List.getElem?_eq_none,h1]
   ·have h2 : (t == d) = false:=by simpa using hd
    simp only [List.contains_cons,h2,Bool.false_or]
    rw [if_neg h,if_neg h,List.getD_eq_getElem?_getD,List.getElem?_set_ne (fun e=>hd e.symm),← List.getD_eq_getElem?_getD]
theorem fold_any_len : ∀ (ds : List Nat) (s : List TV),(ds.foldl (fun s d=>s.set d .any) s).length = s.length
 | [],s=>rfl
 | d :: ds,s=>by rw [List.foldl_cons,fold_any_len ds]; simp
def slC (t0 : Nat) (qd : List (Nat × Nat)) : Nat→Nat
 | 0=>t0
 | k + 1=>((qd[k]?).map (·.2)).getD 0
def rowC (r : LB) (rs : List LB) : Nat→LB
 | 0=>r
 | c + 1=>(rs[c]?).getD .none
def pickL (ms : List Nat) (l : List Oper) : List Oper:=ms.filterMap fun i=>l[i]?
def chB (l : List Oper) (n : Nat) (qd : List (Nat × Nat)) (ms : List Nat) (t0 : Nat) : Bool:=
 backB l.toArray && decide (n ≤ l.length) && parB l (pickL ms l) (fun p=>ms.getD p 0) &&
 (ms.all fun j=>decide (j < n)) && (qd.all fun x=>decide (x.1 < n)) &&
 ((List.range n).all fun j=>ms.contains j || (qd.map (·.1)).contains j) && decide ms.Nodup && decide (qd.map (·.1)).Nodup && decide (qd.map (·.2)).Nodup && (ms.all fun j=>!(qd.map (·.1)).contains j) &&
 ((pickL ms l).all fun o=>(readsOf l o).all (fun t=>!(qd.map (·.2)).contains t) && (match o.dst with | some d=>!(qd.map (·.2)).contains d && !Nat.beq d t0 | none=>true)) &&
 (!(qd.map (·.2)).contains t0) &&
 ((List.range qd.length).all fun k=>match qd[k]? with
  | some x=>(match l[x.1]? with
   | some o=>o.guard.isNone && o.dst == some x.2 && (tmpsOf o.op.operands.toList).all (fun t=>Nat.beq t (slC t0 qd k) || (!(qd.map (·.2)).contains t && !Nat.beq t t0 && (List.range ms.length).all fun p=>match (l[ms.getD p 0]?).bind (·.dst) with
     | some d=>!Nat.beq d t || o.after.any fun e=>decide (e.on = ms.getD p 0) && Region.binds .any e
     | none=>true)) && (match k with | 0=>true | k + 1=>match qd[k]? with | some y=>o.after.any fun e=>decide (e.on = y.1) && Region.binds .any e | none=>true)
   | none=>false)
  | none=>true) &&
 (decide (n = l.length) || (decide (n < l.length) && Region.sinkB .any l.toArray n && Region.chainB .any l.toArray n && Region.seqB .any l.toArray (l.length - n) n (headOf n l.length)))
def ChainR (P : Program) (B : Nat) (w0 : World) (i : Nat) (l : List Oper) (s : List TV) (h : List LB) : Nat→LB→List (Nat × Nat)→List LB→Prop
 | _,_,[],[]=>True
 | t0,r,x :: qd,r' :: rs=>(∃ o,l[x.1]? = some o∧(∀ y ∈ o.op.operands.toList,y ≠ .tmp t0→kp (bar i) (tev s y) = tev s y)∧RowF P B w0 i o s h (.tmp t0) r r')∧ChainR P B w0 i l s h x.2 r' qd rs
 | _,_,_,_=>False
theorem ChainR.get {P : Program} {B : Nat} {w0 : World} {i : Nat} {l : List Oper} {s : List TV} {h : List LB} : ∀ {qd : List (Nat × Nat)} {rs : List LB} {t0 : Nat} {r : LB},ChainR P B w0 i l s h t0 r qd rs→qd.length = rs.length∧∀ (k : Nat) (x : Nat × Nat) (r' : LB),qd[k]? = some x→rs[k]? = some r' →
  ∃ o,l[x.1]? = some o∧(∀ y ∈ o.op.operands.toList,y ≠ .tmp (slC t0 qd k)→kp (bar i) (tev s y) = tev s y)∧RowF P B w0 i o s h (.tmp (slC t0 qd k)) (rowC r rs k) r'
 | [],[],t0,r,_=>⟨rfl,fun k x r' h=>by simp at h⟩
 | x :: qd,r' :: rs,t0,r,hc=>by
  obtain ⟨h1,h2⟩:=hc
  obtain ⟨h3,h4⟩:=ChainR.get h2
  refine ⟨by simp [h3],fun k y r2 hk hr=>?_⟩
  cases k with
  | zero=>
   simp only [List.getElem?_cons_zero,Option.some.injEq] at hk hr
   subst hk; subst hr
   exact h1
  | succ k=>
   simp only [List.getElem?_cons_succ] at hk hr
   have:=h4 k y r2 hk hr
   cases k with
   | zero=>simpa [slC,rowC] using this
   | succ k=>simpa [slC,rowC] using this
 | [],_ :: _,t0,r,hc=>hc.elim
 | _ :: _,[],t0,r,hc=>hc.elim
end Go.Proofs.YtpgfhkbnngjegaaGreatDoor
