/- Steps over trees: operations that make no change to what was there. Condition: what the program's table says of types. -/
import Derived.Test.YtpgfhkbnngjegaaGreatDoorT2
import Derived.Laws.Cells
import Derived.ChangeKeysEq
namespace Go.Proofs.YtpgfhkbnngjegaaGreatDoor
open Go.RowKit
set_option linter.unusedVariables false
set_option linter.unusedSimpArgs false
structure TI where
  k : Nat
  ag : Bool
  n : Nat
  fs : List (Nat × Nat)
  el : Nat
  len : Nat
  by_ : Nat
  ik : Option IntKind
def tiOf (P : Program) (t : TypeId) : Option TI:=
  match P.info? t,P.underlying t with
  | some i,some d=>some
    { k:=match d with | .struct _=>1 | .array ..=>2 | .slice _=>3 | .string=>4 | .int _=>5 | .bool=>6 | .pointer _=>7 | _=>0
      ag:=match d with | .struct _=>true | .array ..=>true | _=>false
      n:=i.size
      fs:=match d with | .struct fs=>fs.toList.map fun f=>(f.offset,f.type) | _=>[]
      el:=match d with | .slice e=>e | .array _ e=>e | .pointer e=>e | _=>0
      len:=match d with | .array n _=>n | _=>0
      by_:=i.bytes
      ik:=match d with | .int k=>some k | _=>none }
  | _,_=>none
section
variable {P : Program} {t : TypeId} {x : TI}
theorem ti_parts (h : tiOf P t = some x) : ∃ i d,P.info? t = some i∧P.underlying t = some d∧x =
    { k:=match d with | .struct _=>1 | .array ..=>2 | .slice _=>3 | .string=>4 | .int _=>5 | .bool=>6 | .pointer _=>7 | _=>0
      ag:=match d with | .struct _=>true | .array ..=>true | _=>false
      n:=i.size
      fs:=match d with | .struct fs=>fs.toList.map fun f=>(f.offset,f.type) | _=>[]
      el:=match d with | .slice e=>e | .array _ e=>e | .pointer e=>e | _=>0
      len:=match d with | .array n _=>n | _=>0
      by_:=i.bytes
      ik:=match d with | .int k=>some k | _=>none }:=by
  unfold tiOf at h
  split at h
  · rename_i i d hi hd
    exact ⟨i,d,hi,hd,(Option.some.inj h).symm⟩
  · cases h
theorem ti_size (h : tiOf P t = some x) (w : World) : (sizeOf t).run P w = .ok x.n w:=by
  obtain ⟨i,d,hi,hd,rfl⟩:=ti_parts h
  rw [run_sizeOf w hi]
  simp [Program.cellsOf,hi]
theorem ti_info (h : tiOf P t = some x) : ∃ i,P.info? t = some i∧i.size = x.n∧i.bytes = x.by_:=by
  obtain ⟨i,d,hi,hd,rfl⟩:=ti_parts h
  exact ⟨i,hi,rfl,rfl⟩
theorem ti_agg (h : tiOf P t = some x) (w : World) : (isAgg t).run P w = .ok x.ag w:=by
  obtain ⟨i,d,hi,hd,rfl⟩:=ti_parts h
  simp only [isAgg,Sem.run_bind,run_underlying hd,Result.andThen_ok]
  cases d <;> rfl
theorem ti_struct (h : tiOf P t = some x) (hk : x.k = 1) : ∃ fs,P.underlying t = some (.struct fs)∧x.fs = fs.toList.map fun f=>(f.offset,f.type):=by
  obtain ⟨i,d,hi,hd,rfl⟩:=ti_parts h
  cases d <;> simp at hk
  exact ⟨_,hd,rfl⟩
theorem ti_field (h : tiOf P t = some x) (hk : x.k = 1) {f off ft : Nat} (hf : x.fs[f]? = some (off,ft)) : ∃ fs fl,P.underlying t = some (.struct fs)∧fs[f]? = some fl∧fl.offset = off∧fl.type = ft:=by
  obtain ⟨fs,h1,h2⟩:=ti_struct h hk
  rw [h2,List.getElem?_map,Option.map_eq_some_iff] at hf
  obtain ⟨fl,h3,h4⟩:=hf
  injection h4 with h4 h5
  exact ⟨fs,fl,h1,by simpa using h3,h4,h5⟩
theorem ti_slice (h : tiOf P t = some x) (hk : x.k = 3) : P.underlying t = some (.slice x.el):=by
  obtain ⟨i,d,hi,hd,rfl⟩:=ti_parts h
  cases d <;> simp at hk
  exact hd
theorem ti_array (h : tiOf P t = some x) (hk : x.k = 2) : P.underlying t = some (.array x.len x.el):=by
  obtain ⟨i,d,hi,hd,rfl⟩:=ti_parts h
  cases d <;> simp at hk
  exact hd
theorem ti_string (h : tiOf P t = some x) (hk : x.k = 4) : P.underlying t = some .string:=by
  obtain ⟨i,d,hi,hd,rfl⟩:=ti_parts h
  cases d <;> simp at hk
  exact hd
theorem ti_int (h : tiOf P t = some x) {k : IntKind} (hk : x.ik = some k) : P.underlying t = some (.int k):=by
  obtain ⟨i,d,hi,hd,rfl⟩:=ti_parts h
  cases d <;> simp at hk
  rw [hd,hk]
end
def ofC : Value→TV
  | .slice none 0 0=>.nil_
  | c=>.v c
theorem ofC_dn (C : Cx) (x : Value) : Dn C (ofC x) x:=by
  unfold ofC
  split <;> simp [Dn]
def ofV : Value→TV
  | .agg cs=>.agg (cs.toList.map ofC)
  | .slice none 0 0=>.nil_
  | .func f a b=>if a.size = 0∧b.size = 0 then .fn f [] else .v (.func f a b)
  | x=>.v x
theorem ofV_dn (C : Cx) (x : Value) : Dn C (ofV x) x:=by
  have key : ∀ cs : List Value,DnL C (cs.map ofC) cs:=by
    intro cs
    induction cs with
    | nil=>exact DnL.nil
    | cons c cs ih=>exact DnL.cons (ofC_dn C c) ih
  unfold ofV
  split
  · rename_i cs
    simp only [Dn]
    exact ⟨cs.toList,by simp,key _⟩
  · simp [Dn]
  · rename_i f a b
    split
    · rename_i h
      simp only [Dn]
      refine ⟨[],?_,DnL.nil⟩
      have h1:=Array.eq_empty_of_size_eq_zero h.1
      have h2:=Array.eq_empty_of_size_eq_zero h.2
      subst h1 h2
      rfl
    · simp [Dn]
  · simp [Dn]
def tev (s : List TV) : Operand→TV
  | .tmp t=>s.getD t .any
  | .const x=>ofV x
  | .global g=>.v (.pointer (some ⟨g,0,none⟩))
  | .func f=>.fn (.func f) []
theorem tev_dn {C : Cx} {s : List TV} {a : Act} (h : DnL C s a.tmps.toList) (x : Operand) : Dn C (tev s x) (a.eval x):=by
  cases x with
  | tmp t=>
    simp only [tev,Act.eval]
    rcases Nat.lt_or_ge t s.length with ht | ht
    · obtain ⟨u,h1,h2⟩:=h.at_ t s[t] (List.getElem?_eq_getElem ht)
      have e1 : s.getD t .any = s[t]:=by simp [List.getD,ht]
      have e2 : a.tmps.getD t undef = u:=by
        rw [Array.getD_eq_getD_getElem?,← Array.getElem?_toList,h1]
        rfl
      rw [e1,e2]
      exact h2
    · have : s.getD t .any = .any:=by simp [List.getD,List.getElem?_eq_none ht]
      rw [this]
      simp [Dn]
  | const v=>exact ofV_dn C v
  | global g=>simp [tev,Act.eval,Dn]
  | func f=>
    simp only [tev,Act.eval,Dn]
    exact ⟨[],rfl,DnL.nil⟩
def HS (h : List LB) (h' : Nat→LB) : Prop:=∀ i,i < h.length→hf h i ≠ .none→h' i = .none∨h' i = hf h i
def addf (h' : Nat→LB) (n : Nat) : Option LB→Nat→LB
  | none=>h'
  | some lb=>updf h' n lb
theorem hf_ge {h : List LB} {i : Nat} (hi : h.length ≤ i) : hf h i = .none:=by simp [hf,List.getD,List.getElem?_eq_none hi]
theorem hf_lt {h : List LB} {i : Nat} {b : LB} (hb : hf h i = b) (hn : b ≠ .none) : i < h.length:=by
  rcases Nat.lt_or_ge i h.length with h1 | h1
  · exact h1
  · exact absurd (hb.symm.trans (hf_ge h1)) hn
theorem HS.same {h : List LB} {h' : Nat→LB} (H : HS h h') {i : Nat} {b : LB} (hb : hf h i = b) (hn : b ≠ .none) (hp : (h' i).here) : h' i = b:=by
  rcases H i (hf_lt hb hn) (fun e=>hn (hb.symm.trans e)) with h1 | h1
  · rw [h1] at hp; exact hp.elim
  · rw [h1,hb]
def TStep (P : Program) (B : Nat) (w0 : World) (h : List LB) (s : List TV) (o : Oper) (tv : TV) (new : Option LB) : Prop:=
  ∀ (ρ : Nat→Value) (h' : Nat→LB) (w : World) (a : Act),HS h h'→(new.isSome = true→h' h.length = .none)→Rel B w0 ρ h' w →
    (∀ x ∈ o.op.operands.toList,Dn (cxOf B ρ h' w) (tev s x) (a.eval x)) →
    ∀ (K : Act→World→Prop) (Q : Exit→Act→World→Prop),
      (∀ u w' ρ',Rel B w0 ρ' (addf h' h.length new) w'→Keeps (cxOf B ρ h' w) (cxOf B ρ' (addf h' h.length new) w')→Below w.heap.size w w'→Dn (cxOf B ρ' (addf h' h.length new) w') tv u→K (a.put o.dst u) w') →
      o.wp P a w K Q
section
variable {P : Program} {B : Nat} {w0 : World} {h : List LB} {s : List TV} {o : Oper} {tv : TV}
theorem TStep.same (hh : ∀ (ρ : Nat→Value) (h' : Nat→LB) (w : World) (a : Act),HS h h'→Rel B w0 ρ h' w→(∀ x ∈ o.op.operands.toList,Dn (cxOf B ρ h' w) (tev s x) (a.eval x)) →
    ∃ u,(execOp a.eval o).run P w = .ok (.value u) w∧Dn (cxOf B ρ h' w) tv u) : TStep P B w0 h s o tv none:=by
  intro ρ h' w a H _ R hx K Q hK
  obtain ⟨u,h1,h2⟩:=hh ρ h' w a H R hx
  unfold Oper.wp
  rw [h1]
  exact hK u w ρ R (.grow (Below.refl _ _)) (Below.refl _ _) h2
theorem TStep.new {lb : LB} (hh : ∀ (ρ : Nat→Value) (h' : Nat→LB) (w : World) (a : Act),HS h h'→Rel B w0 ρ h' w→(∀ x ∈ o.op.operands.toList,Dn (cxOf B ρ h' w) (tev s x) (a.eval x)) →
    ∃ u w' r,(execOp a.eval o).run P w = .ok (.value u) w'∧Below w.heap.size w w'∧(∀ g,blkOf r = some g→w.heap.size ≤ g∧g < w'.heap.size) ∧
      (∀ t cs,lb = .cells t cs→∃ g vs,r = .pointer (some ⟨g,0,none⟩)∧Blk w' g t vs.toArray∧B ≤ g∧DnL (cxOf B ρ h' w) cs vs) ∧
      (∀ e sz els,lb = .row e sz els→∃ A c css,r = .slice A els.length c∧w'.ownsRow B e sz r els.length css.flatten∧(∀ x ∈ css,x.length = sz)∧DnLL (cxOf B ρ h' w) els css) ∧
      (∀ C,C.ρ h.length = r→C.pres h.length→Dn C tv u)) (hl : lb.here) (hnx : lb.nx:=by exact trivial) : TStep P B w0 h s o tv (some lb):=by
  intro ρ h' w a H hn R hx K Q hK
  obtain ⟨u,w',r,h1,h2,h3,h4,h5,h6⟩:=hh ρ h' w a H R hx
  unfold Oper.wp
  rw [h1]
  have hnone:=hn rfl
  have KK : Keeps (cxOf B ρ h' w) (cxOf B (updf ρ h.length r) (updf h' h.length lb) w'):=.add hnone h2 h3 hnx
  refine hK u w' (updf ρ h.length r) (R.add hnone h2 h3 (fun t cs e=>?_) (fun e sz els e'=>?_) hnx) KK h2 (h6 _ (updf_same _ _ _) ?_)
  · obtain ⟨g,vs,e1,e2,e3,e4⟩:=h4 t cs e
    exact ⟨g,vs,e1,e2,e3,DnL.keep KK _ _ e4⟩
  · obtain ⟨A,c,css,e1,e2,e3,e4⟩:=h5 e sz els e'
    exact ⟨A,c,css,e1,e2,e3,DnLL.keep KK _ _ e4⟩
  · show (updf h' h.length lb h.length).here
    rw [updf_same]
    exact hl
theorem S_move {x : Operand} (ho : o.op = .move x) : TStep P B w0 h s o (tev s x) none:=.same fun ρ h' w a H R hx=>
  ⟨a.eval x,by simp [execOp,ho],hx x (by simp [ho,Op.operands])⟩
theorem S_assign {x : Operand} (ho : o.op = .assign x) : TStep P B w0 h s o (tev s x) none:=.same fun ρ h' w a H R hx=>
  ⟨a.eval x,by simp [execOp,ho],hx x (by simp [ho,Op.operands])⟩
theorem S_pick {c x y : Operand} {b : Bool} (ho : o.op = .pick c x y) (hc : tev s c = .v (.bool b)) (ht : tv = if b then tev s x else tev s y) : TStep P B w0 h s o tv none:=.same fun ρ h' w a H R hx=>by
  have h1:=hx c (by simp [ho,Op.operands])
  rw [hc] at h1
  simp only [Dn] at h1
  refine ⟨if b then a.eval x else a.eval y,by simp [execOp,ho,h1,asBool],?_⟩
  subst ht
  cases b
  · exact hx y (by simp [ho,Op.operands])
  · exact hx x (by simp [ho,Op.operands])
theorem S_extract {x : Operand} {i : Nat} {ts : List TV} (ho : o.op = .extract x i) (hx : tev s x = .tup ts) (hi : ts[i]? = some tv) : TStep P B w0 h s o tv none:=.same fun ρ h' w a H R hh=>by
  have h1:=hh x (by simp [ho,Op.operands])
  rw [hx] at h1
  simp only [Dn] at h1
  obtain ⟨vs,h2,h3⟩:=h1
  obtain ⟨u,h4,h5⟩:=h3.at_ i tv hi
  exact ⟨u,by simp [execOp,ho,h2,Instr.extract,h4],h5⟩
def packT (ag : Bool) (n : Nat) (l : List TV) : Option TV:=if ag then (if n ≤ l.length then some (.agg (l.take n)) else none) else l.head?
theorem packT_run {C : Cx} {t : TypeId} {x : TI} {l : List TV} {vs : List Value} {ad : Addr} (ht : tiOf P t = some x) (hp : packT x.ag x.n l = some tv) (hd : DnL C l vs) (hc : ∀ j u,vs[j]? = some u→C.w.cell? (ad.add j) = some u) :
    ∃ u,(loadVar t ad).run P C.w = .ok u C.w∧Dn C tv u:=by
  unfold packT at hp
  have hl:=hd.len
  cases hag : x.ag with
  | true=>
    simp only [hag,if_true] at hp
    split at hp
    · rename_i hn
      injection hp with hp
      subst hp
      refine ⟨.agg (vs.take x.n).toArray,?_,?_⟩
      · have h2 : (loadCells ad x.n).run P C.w = .ok (vs.take x.n).toArray C.w:=by
          have:=run_loadCells_list (P:=P) (w:=C.w) ad (vs.take x.n) (fun j u hu=>by
            rw [List.getElem?_take] at hu
            split at hu
            · exact hc j u hu
            · cases hu)
          rwa [List.length_take,hl,Nat.min_eq_left hn] at this
        simp only [loadVar,Sem.run_bind,ti_agg ht,Result.andThen_ok,hag,if_true,ti_size ht,h2,Sem.run_pure]
      · simp only [Dn]
        exact ⟨_,rfl,hd.take _⟩
    · cases hp
  | false=>
    simp only [hag,Bool.false_eq_true,if_false] at hp
    rw [List.head?_eq_getElem?] at hp
    obtain ⟨u,h1,h2⟩:=hd.at_ 0 tv hp
    refine ⟨u,?_,h2⟩
    have h3:=hc 0 u h1
    have h4 : ad.add 0 = ad:=by simp [Addr.add]
    rw [h4] at h3
    simp [loadVar,ti_agg ht,hag,h3]
theorem Rel.cells_at {ρ : Nat→Value} {h' : Nat→LB} {w : World} (R : Rel B w0 ρ h' w) {i g : Nat} {t : TypeId} {cs : List TV} (hi : h' i = .cells t cs) (hg : blkOf (ρ i) = some g) :
    ∃ vs,Blk w g t vs.toArray∧B ≤ g∧DnL (cxOf B ρ h' w) cs vs∧ρ i = .pointer (some ⟨g,0,none⟩):=by
  obtain ⟨g',vs,h1,h2,h3,h4⟩:=R.blk i t cs hi
  rw [h1] at hg
  injection hg with hg
  subst hg
  exact ⟨vs,h2,h3,h4,h1⟩
theorem S_load {t t0 : TypeId} {x : Operand} {i off : Nat} {cs : List TV} {ti : TI} (ho : o.op = .load t x) (hx : tev s x = .ptr i off) (hi : hf h i = .cells t0 cs) (ht : tiOf P t = some ti) (hp : packT ti.ag ti.n (cs.drop off) = some tv) :
    TStep P B w0 h s o tv none:=.same fun ρ h' w a H R hh=>by
  have h1:=hh x (by simp [ho,Op.operands])
  rw [hx] at h1
  simp only [Dn] at h1
  obtain ⟨h2,g,h3,h4⟩:=h1
  obtain ⟨vs,h5,h6,h7,_⟩:=R.cells_at (H.same hi (by simp) h2) h3
  obtain ⟨u,h8,h9⟩:=packT_run (C:=cxOf B ρ h' w) (P:=P) (ad:=⟨g,off,none⟩) ht hp (h7.drop off) (fun j u hu=>by
    rw [List.getElem?_drop] at hu
    have : (⟨g,off,none⟩ : Addr).add j = ⟨g,off + j,none⟩:=by unfold Addr.add; split <;> simp_all
    show w.cell? _ = some u
    rw [this,h5.cell (off + j)]
    simpa using hu)
  have h8' : (loadVar t ⟨g,off,none⟩).run P w = .ok u w:=h8
  exact ⟨u,by simp [execOp,ho,h4,Instr.loadAt,Instr.sureAddr,h8'],h9⟩
theorem flat_at {α : Type} (sz : Nat) : ∀ (css : List (List α)) (k j : Nat) (c : List α),(∀ x ∈ css,x.length = sz)→css[k]? = some c→j < sz→css.flatten[k * sz + j]? = c[j]?
  | [],k,j,c,h,hk,hj=>by simp at hk
  | x :: css,0,j,c,h,hk,hj=>by
    simp only [List.getElem?_cons_zero,Option.some.injEq] at hk
    subst hk
    rw [List.flatten_cons,Nat.zero_mul,Nat.zero_add,List.getElem?_append_left (by rw [h x (by simp)]; exact hj)]
  | x :: css,k + 1,j,c,h,hk,hj=>by
    simp only [List.getElem?_cons_succ] at hk
    rw [List.flatten_cons,List.getElem?_append_right (by rw [h x (by simp),Nat.add_mul]; omega),h x (by simp),show (k + 1) * sz + j - sz = k * sz + j by rw [Nat.add_mul]; omega]
    exact flat_at sz css k j c (fun y hy=>h y (by simp [hy])) hk hj
theorem row_cells {w : World} {e : TypeId} {sz n : Nat} {A : Option Addr} {c g : Nat} {css : List (List Value)} (ho : w.ownsRow B e sz (.slice A n c) n css.flatten) (hs : ∀ x ∈ css,x.length = sz) (hg : blkOf (.slice A n c) = some g) {k : Nat} {cv : List Value} (hk : css[k]? = some cv) {j : Nat} {u : Value} (hj : j < sz) (hu : cv[j]? = some u) :
    w.cell? ⟨g,k * sz + j,none⟩ = some u:=by
  rcases A with _ | ad
  · simp [blkOf] at hg
  · simp only [blkOf,Option.some.injEq] at hg
    subst hg
    have hf:=flat_at sz css k j cv hs hk hj
    rcases ho.2 with ⟨hv,_⟩ | ⟨g',cap,cur,hv,_⟩
    · cases hv
    · injection hv with hA
      injection hA with hA
      subst hA
      have:=ho.cells (g:=g') rfl _ _ (hf.trans hu)
      have e : (⟨g',0,none⟩ : Addr).add (k * sz + j) = ⟨g',k * sz + j,none⟩:=by unfold Addr.add; split <;> simp_all
      rwa [e] at this
theorem S_load_row {t e : TypeId} {x : Operand} {i off k j sz : Nat} {els : List (List TV)} {c : List TV} {ti : TI} (ho : o.op = .load t x) (hx : tev s x = .ptr i off) (hi : hf h i = .row e sz els) (hoff : off = k * sz + j) (hk : els[k]? = some c) (ht : tiOf P t = some ti)
    (hp : packT ti.ag ti.n (c.drop j) = some tv) : TStep P B w0 h s o tv none:=.same fun ρ h' w a H R hh=>by
  have h1:=hh x (by simp [ho,Op.operands])
  rw [hx] at h1
  simp only [Dn] at h1
  obtain ⟨h2,g,h3,h4⟩:=h1
  obtain ⟨A,c',css,r1,r2,r3,r4⟩:=R.row i _ _ _ (H.same hi (by simp) h2)
  obtain ⟨cv,r5,r6⟩:=r4.at_ k c hk
  have hlen:=r3 cv (List.mem_of_getElem? r5)
  replace h3 : blkOf (ρ i) = some g:=h3
  rw [r1] at h3 r2
  subst hoff
  obtain ⟨u,h8,h9⟩:=packT_run (C:=cxOf B ρ h' w) (P:=P) (ad:=⟨g,k * sz + j,none⟩) ht hp (r6.drop j) (fun m u hu=>by
    rw [List.getElem?_drop] at hu
    have e1 : (⟨g,k * sz + j,none⟩ : Addr).add m = ⟨g,k * sz + (j + m),none⟩:=by unfold Addr.add; split <;> simp_all [Nat.add_assoc]
    show w.cell? _ = some u
    rw [e1]
    exact row_cells r2 r3 h3 r5 (by have:=(List.getElem?_eq_some_iff.1 hu).1; omega) hu)
  have h8' : (loadVar t ⟨g,k * sz + j,none⟩).run P w = .ok u w:=h8
  exact ⟨u,by simp [execOp,ho,h4,Instr.loadAt,Instr.sureAddr,h8'],h9⟩
theorem S_load_eptr {t : TypeId} {x : Operand} {cs : List TV} {ti : TI} (ho : o.op = .load t x) (hx : tev s x = .eptr cs) (ht : tiOf P t = some ti) (hp : packT ti.ag ti.n cs = some tv) : TStep P B w0 h s o tv none:=.same fun ρ h' w a H R hh=>by
  have h1:=hh x (by simp [ho,Op.operands])
  rw [hx] at h1
  simp only [Dn] at h1
  obtain ⟨ad,vs,h2,h3,h4,h5,h6⟩:=h1
  obtain ⟨u,h8,h9⟩:=packT_run (C:=cxOf B ρ h' w) (P:=P) (ad:=ad) ht hp h5 h6
  have h8' : (loadVar t ad).run P w = .ok u w:=h8
  exact ⟨u,by simp [execOp,ho,h2,Instr.loadAt,Instr.sureAddr,h8'],h9⟩
theorem fieldAt_run {t : TypeId} {ti tf : TI} {f off ft : Nat} {ad : Addr} (ht : tiOf P t = some ti) (hk : ti.k = 1) (hf : ti.fs[f]? = some (off,ft)) (hft : tiOf P ft = some tf) (hn : tf.n ≠ 0) (w : World) :
    (Instr.fieldAt t (.pointer (some ad)) f).run P w = .ok (.pointer (some (ad.add off))) w:=by
  obtain ⟨fs,fl,h1,h2,h3,h4⟩:=ti_field ht hk hf
  subst h3 h4
  simp [Instr.fieldAt,run_underlying h1,h2,Instr.sureAddr,fieldPlace,ti_size hft,hn]
theorem S_fieldAddr {t : TypeId} {x : Operand} {i off f fo ft : Nat} {ti tf : TI} (ho : o.op = .fieldAddr t x f) (hx : tev s x = .ptr i off) (ht : tiOf P t = some ti) (hk : ti.k = 1) (hf : ti.fs[f]? = some (fo,ft)) (hft : tiOf P ft = some tf) (hn : tf.n ≠ 0) :
    TStep P B w0 h s o (.ptr i (off + fo)) none:=.same fun ρ h' w a H R hh=>by
  have h1:=hh x (by simp [ho,Op.operands])
  rw [hx] at h1
  simp only [Dn] at h1
  obtain ⟨h2,g,h3,h4⟩:=h1
  refine ⟨.pointer (some ((⟨g,off,none⟩ : Addr).add fo)),by simp [execOp,ho,h4,fieldAt_run ht hk hf hft hn],?_⟩
  simp only [Dn]
  refine ⟨h2,g,h3,?_⟩
  unfold Addr.add
  split <;> simp_all
theorem S_fieldAddr_eptr {t : TypeId} {x : Operand} {f fo ft : Nat} {cs : List TV} {ti tf : TI} (ho : o.op = .fieldAddr t x f) (hx : tev s x = .eptr cs) (ht : tiOf P t = some ti) (hk : ti.k = 1) (hf : ti.fs[f]? = some (fo,ft)) (hft : tiOf P ft = some tf) (hn : tf.n ≠ 0) :
    TStep P B w0 h s o (.eptr (cs.drop fo)) none:=.same fun ρ h' w a H R hh=>by
  have h1:=hh x (by simp [ho,Op.operands])
  rw [hx] at h1
  simp only [Dn] at h1
  obtain ⟨ad,vs,h2,h3,h4,h5,h6⟩:=h1
  refine ⟨.pointer (some (ad.add fo)),by simp [execOp,ho,h2,fieldAt_run ht hk hf hft hn],?_⟩
  simp only [Dn]
  refine ⟨_,vs.drop fo,rfl,by rw [addr_block]; exact h3,by rw [addr_block]; exact h4,h5.drop _,fun j u hu=>?_⟩
  rw [addr_add]
  exact h6 _ u (by rw [← hu,List.getElem?_drop])
theorem part_run {C : Cx} {t : TypeId} {x : TI} {l : List TV} {vs : List Value} {off : Nat} (ht : tiOf P t = some x) (hp : packT x.ag x.n (l.drop off) = some tv) (hd : DnL C l vs) (w : World) :
    ∃ u,(part t vs.toArray off).run P w = .ok u w∧Dn C tv u:=by
  unfold packT at hp
  have hl:=hd.len
  cases hag : x.ag with
  | true=>
    simp only [hag,if_true] at hp
    split at hp
    · injection hp with hp
      subst hp
      refine ⟨.agg ((vs.drop off).take x.n).toArray,?_,?_⟩
      · simp [part,ti_agg ht,hag,ti_size ht,List.extract_toArray]
      · simp only [Dn]
        exact ⟨_,rfl,(hd.drop off).take _⟩
    · cases hp
  | false=>
    simp only [hag,Bool.false_eq_true,if_false] at hp
    rw [List.head?_eq_getElem?] at hp
    obtain ⟨u,h1,h2⟩:=(hd.drop off).at_ 0 tv hp
    refine ⟨u,?_,h2⟩
    rw [List.getElem?_drop,Nat.add_zero] at h1
    simp [part,ti_agg ht,hag,h1]
theorem S_field {t : TypeId} {x : Operand} {f fo ft : Nat} {cs : List TV} {ti tf : TI} (ho : o.op = .field t x f) (hx : tev s x = .agg cs) (ht : tiOf P t = some ti) (hk : ti.k = 1) (hf : ti.fs[f]? = some (fo,ft)) (hft : tiOf P ft = some tf) (hp : packT tf.ag tf.n (cs.drop fo) = some tv) :
    TStep P B w0 h s o tv none:=.same fun ρ h' w a H R hh=>by
  have h1:=hh x (by simp [ho,Op.operands])
  rw [hx] at h1
  simp only [Dn] at h1
  obtain ⟨vs,h2,h3⟩:=h1
  obtain ⟨fs,fl,h4,h5,h6,h7⟩:=ti_field ht hk hf
  subst h6 h7
  obtain ⟨u,h8,h9⟩:=part_run (P:=P) hft hp h3 w
  exact ⟨u,by simp [execOp,ho,h2,Instr.field,run_underlying h4,h5,asAgg,h8],h9⟩
theorem asInt_run {k : IntKind} {n : Int} (w : World) : (asIntOf (.int k n)).run P w = .ok (k,n) w:=rfl
theorem S_index_sl {t : TypeId} {x y : Operand} {b : Bool} {els : List (List TV)} {c : List TV} {k : IntKind} {m : Int} {j : Nat} {ti te : TI} (ho : o.op = .indexAddr t x y) (hx : tev s x = .sl b els) (hy : tev s y = .v (.int k m)) (ht : tiOf P t = some ti) (hk : ti.k = 3) (he : tiOf P ti.el = some te)
    (hj : els[j]? = some c) (hm : m = (j : Int)) (hc : c.length = te.n) (hn : te.n ≠ 0) : TStep P B w0 h s o (.eptr c) none:=.same fun ρ h' w a H R hh=>by
  have h1:=hh x (by simp [ho,Op.operands])
  have h2:=hh y (by simp [ho,Op.operands])
  rw [hx] at h1
  rw [hy] at h2
  simp only [Dn] at h1 h2
  obtain ⟨A,cap,css,sz,r1,r2,r3,r4,r5,r6,r7⟩:=h1
  have hjl:=(List.getElem?_eq_some_iff.1 hj).1
  have hne : els ≠ []:=by rintro rfl; simp at hjl
  rcases A with _ | ad
  · exact absurd (r4 rfl) hne
  · obtain ⟨r8,r9⟩:=r7 ad rfl
    obtain ⟨r10,r11,_⟩:=r8 hne
    obtain ⟨cv,r12,r13⟩:=r6.at_ j c hj
    have hsz : sz = te.n:=by rw [← r5 cv (List.mem_of_getElem? r12),r13.len,hc]
    subst hm
    refine ⟨.pointer (some (ad.add (j * te.n))),?_,?_⟩
    · have : (0 : Int) ≤ (j : Int)∧(j : Int) < (els.length : Int):=by omega
      simp [execOp,ho,h2,r1,Instr.indexAt,asInt_run,run_underlying (ti_slice ht hk),ti_size he,hjl]
    · simp only [Dn]
      refine ⟨_,cv,rfl,by rw [addr_block]; exact r10,by rw [addr_block]; exact r11,r13,fun i u hu=>?_⟩
      rw [addr_add]
      have hi : i < sz:=by have:=(List.getElem?_eq_some_iff.1 hu).1; rw [r5 cv (List.mem_of_getElem? r12)] at this; exact this
      exact r9 _ u (by rw [← hu,← hsz]; exact flat_at sz css j i cv r5 r12 hi)
theorem S_index_row {t e : TypeId} {x y : Operand} {i sz : Nat} {els : List (List TV)} {k : IntKind} {m : Int} {j : Nat} {ti te : TI} (ho : o.op = .indexAddr t x y) (hx : tev s x = .row i) (hi : hf h i = .row e sz els) (hy : tev s y = .v (.int k m)) (ht : tiOf P t = some ti) (hk : ti.k = 3) (he : tiOf P ti.el = some te)
    (hsz : te.n = sz) (hm : m = (j : Int)) (hj : j < els.length) : TStep P B w0 h s o (.ptr i (j * sz)) none:=.same fun ρ h' w a H R hh=>by
  have h1:=hh x (by simp [ho,Op.operands])
  have h2:=hh y (by simp [ho,Op.operands])
  rw [hx] at h1
  rw [hy] at h2
  simp only [Dn] at h1 h2
  obtain ⟨p1,p2⟩:=h1
  obtain ⟨A,c',css,r1,r2,r3,r4⟩:=R.row i _ _ _ (H.same hi (by simp) p1)
  have r1' : ρ i = .slice A els.length c':=r1
  have p2' : a.eval x = .slice A els.length c':=by rw [p2]; exact r1
  subst hm
  rw [r1] at r2
  obtain ⟨g,cap,hv,hbg,hlt⟩:=r2.form (by omega)
  injection hv with hA _ hc
  subst hA
  refine ⟨.pointer (some ((⟨g,0,none⟩ : Addr).add (j * te.n))),?_,?_⟩
  · simp [execOp,ho,h2,p2',Instr.indexAt,asInt_run,run_underlying (ti_slice ht hk),ti_size he,hj]
  · simp only [Dn]
    refine ⟨p1,g,by show blkOf (ρ i) = some g; rw [r1']; rfl,?_⟩
    rw [hsz]
    unfold Addr.add
    split <;> simp_all
theorem S_index_arr {t : TypeId} {x y : Operand} {i off : Nat} {k : IntKind} {m : Int} {j : Nat} {ti te : TI} (ho : o.op = .indexAddr t x y) (hx : tev s x = .ptr i off) (hy : tev s y = .v (.int k m)) (ht : tiOf P t = some ti) (hk : ti.k = 2) (he : tiOf P ti.el = some te)
    (hm : m = (j : Int)) (hj : j < ti.len) : TStep P B w0 h s o (.ptr i (off + j * te.n)) none:=.same fun ρ h' w a H R hh=>by
  have h1:=hh x (by simp [ho,Op.operands])
  have h2:=hh y (by simp [ho,Op.operands])
  rw [hx] at h1
  rw [hy] at h2
  simp only [Dn] at h1 h2
  obtain ⟨p1,g,p2,p3⟩:=h1
  subst hm
  refine ⟨.pointer (some ((⟨g,off,none⟩ : Addr).add (j * te.n))),?_,?_⟩
  · simp [execOp,ho,h2,p3,Instr.indexAt,Instr.sureAddr,asInt_run,run_underlying (ti_array ht hk),ti_size he,hj]
  · simp only [Dn]
    refine ⟨p1,g,p2,?_⟩
    unfold Addr.add
    split <;> simp_all
end
end Go.Proofs.YtpgfhkbnngjegaaGreatDoor
