/- Functions over trees: entry and end, calls that are entered in place, append, and what may be forgotten. Condition: what the program's table says of types. -/
import Derived.Test.YtpgfhkbnngjegaaGreatDoorT6
namespace Go.Proofs.YtpgfhkbnngjegaaGreatDoor
open Go.RowKit
set_option linter.unusedVariables false
set_option linter.unusedSimpArgs false
def ResV (P : Program) (σ : St) : ResultVar→TV→Prop
 | .tmp t,tv=>tev σ.s (.tmp t) = tv
 | .cell x t,tv=>∃ i off t0 cs ti,tev σ.s (.tmp x) = .ptr i off∧hf σ.h i = .cells t0 cs∧tiOf P t = some ti∧packT ti.ag ti.n (cs.drop off) = some tv
def ResL (P : Program) (σ : St) : List ResultVar→List TV→Prop
 | [],ts=>ts = []
 | r :: rs,ts=>∃ t ts',ts = t :: ts'∧ResV P σ r t∧ResL P σ rs ts'
def resTV : List TV→TV
 | [t]=>t
 | ts=>.tup ts
def ResT (P : Program) (fn : Func) (σ : St) (tv : TV) : Prop:=∃ ts,ResL P σ fn.results.toList ts∧tv = resTV ts
section
variable {P : Program} {B : Nat} {w0 : World} {gh : List Value} {σ : St} {fn : Func}
def oneRes (tmps : Array Value) (r : ResultVar) : Sem Value:=match r with
 | .tmp t=>pure (tmps.getD t undef)
 | .cell a t=>do loadVar t (← asAddr (tmps.getD a undef))
theorem results_eq (tmps : Array Value) : results fn tmps = (do let vs ← fn.results.mapM (oneRes tmps); pure (if h : vs.size = 1 then vs[0] else .tuple vs)):=rfl
theorem resV_run {ρ : Nat→Value} {a : Act} {w : World} (hr : RelS B w0 gh ρ σ a w) {r : ResultVar} {t : TV} (h : ResV P σ r t) :
  ∃ u,(oneRes a.tmps r).run P w = .ok u w∧Dn (cxOf B ρ (hf σ.h) w) t u:=by
 cases r with
 | tmp x=>
  simp only [ResV] at h
  have:=tev_dn hr.slots (.tmp x)
  rw [h] at this
  exact ⟨_,rfl,this⟩
 | cell x ty=>
  obtain ⟨i,off,t0,cs,ti,h1,h2,h3,h4⟩:=h
  have e1:=tev_dn hr.slots (.tmp x)
  rw [h1] at e1
  simp only [Dn,Act.eval] at e1
  obtain ⟨p1,g,p2,p3⟩:=e1
  obtain ⟨vs,q1,q2,q3,q4⟩:=hr.rel.cells_at h2 p2
  obtain ⟨u,h8,h9⟩:=packT_run (C:=cxOf B ρ (hf σ.h) w) (P:=P) (ad:=⟨g,off,none⟩) h3 h4 (q3.drop off) (fun j u hu=>by
   rw [List.getElem?_drop] at hu
   have : (⟨g,off,none⟩ : Addr).add j = ⟨g,off + j,none⟩:=by unfold Addr.add; split <;> simp_all
   show w.cell? _ = some u
   rw [this,q1.cell (off + j)]
   simpa using hu)
  refine ⟨u,?_,h9⟩
  simp only [oneRes,p3,asAddr,Sem.run_bind,Sem.run_pure,Result.andThen_ok]
  exact h8
theorem resT_run {ρ : Nat→Value} {a : Act} {w : World} (hr : RelS B w0 gh ρ σ a w) {t : TV} (h : ResT P fn σ t) : ∃ u,(results fn a.tmps).run P w = .ok u w∧Dn (cxOf B ρ (hf σ.h) w) t u:=by
 obtain ⟨ts,h1,rfl⟩:=h
 have key : ∀ (rs : List ResultVar) (ts : List TV),ResL P σ rs ts→∃ us,(rs.mapM (oneRes a.tmps)).run P w = .ok us w∧DnL (cxOf B ρ (hf σ.h) w) ts us:=by
  intro rs
  induction rs with
  | nil=>intro ts h; simp only [ResL] at h; subst h; exact ⟨[],by simp,DnL.nil⟩
  | cons r rs ih=>
   intro ts h
   obtain ⟨t,ts',rfl,h2,h3⟩:=h
   obtain ⟨u,h4,h5⟩:=resV_run hr h2
   obtain ⟨us,h6,h7⟩:=ih ts' h3
   refine ⟨u :: us,?_,DnL.cons h5 h7⟩
   simp only [List.mapM_cons,Sem.run_bind,h4,Result.andThen_ok,h6,Sem.run_pure]
 obtain ⟨us,h2,h3⟩:=key _ _ h1
 have hrun : (results fn a.tmps).run P w = .ok (if h : us.toArray.size = 1 then us.toArray[0] else .tuple us.toArray) w:=by
  rw [results_eq,← Array.toArray_toList (xs:=fn.results)]
  simp only [List.mapM_toArray,Sem.run_bind,Sem.run_map,h2,Result.andThen_ok,Sem.run_pure]
 refine ⟨_,hrun,?_⟩
 have hlen:=h3.len
 cases ts with
 | nil=>
  simp only [DnL] at h3
  subst h3
  simp only [resTV,Dn]
  exact ⟨[],rfl,DnL.nil⟩
 | cons t ts=>
  cases ts with
  | nil=>
   simp only [DnL] at h3
   obtain ⟨u,us',rfl,h4,rfl⟩:=h3
   exact h4
  | cons t' ts=>
   simp only [resTV,Dn]
   refine ⟨us,?_,h3⟩
   rw [dif_neg (by simp at hlen ⊢; omega)]
mutual
def Out (h : List LB) (q : Option Nat) : TV→TV→Prop
 | .v x,r=>r = .v x
 | .nil_,r=>r = .nil_∨r = .sl true []∨(q = none∧∃ e sz,r = .osl e sz [])
 | .sl b els,r=>b = true∧FrLL els∧r = .sl true els
 | .row i,r=>∃ e sz els,hf h i = .row e sz els∧FrLL els∧((q = some i∧r = .osl e sz els)∨(q ≠ some i∧r = .sl true els))
 | .agg ts,r=>∃ rs,r = .agg rs∧OutL h q ts rs
 | .tup ts,r=>∃ rs,r = .tup rs∧OutL h q ts rs
 | _,r=>r = .any
def OutL (h : List LB) (q : Option Nat) : List TV→List TV→Prop
 | [],rs=>rs = []
 | t :: ts,rs=>∃ r rs',rs = r :: rs'∧Out h q t r∧OutL h q ts rs'
end
def ovOf (ρ : Nat→Value) : Option Nat→Value
 | some i=>ρ i
 | none=>.slice none 0 0
mutual
theorem out_dn {ρ : Nat→Value} {w : World} {h : List LB} {q : Option Nat} (R : Rel B w0 ρ (hf h) w) (hq : ∀ i,q = some i→(hf h i).here) : ∀ (t r : TV) (u : Value),Out h q t r→Dn (cxOf B ρ (hf h) w) t u→Dn (rsCx B w (ovOf ρ q)) r u
 | .v x,r,u,ho,hd=>by simp only [Out] at ho; subst ho; simp only [Dn] at hd ⊢; exact hd
 | .nil_,r,u,ho,hd=>by
  simp only [Out] at ho
  simp only [Dn] at hd
  subst hd
  rcases ho with rfl | rfl | ⟨hq0,e,sz,rfl⟩
  ·simp [Dn]
  ·simp only [Dn]
   exact ⟨none,0,[],0,rfl,Nat.le_refl _,by simp [maxLen],by simp,by simp,by simp [DnLL],fun ad ha=>by cases ha⟩
  ·subst hq0
   simp only [Dn]
   refine ⟨none,0,[],rfl,?_,by simp,by simp [DnLL]⟩
   show Value.slice none 0 0 = ovOf ρ none∧w.ownsRow B e sz _ 0 _
   exact ⟨rfl,by simp,.inl ⟨rfl,rfl⟩⟩
 | .sl b els,r,u,ho,hd=>by
  simp only [Out] at ho
  obtain ⟨rfl,hf',rfl⟩:=ho
  refine Dn.fr (C:=cxOf B ρ (hf h) w) (C':=rsCx B w (ovOf ρ q)) rfl (Nat.le_refl _) (fun k hS hB hk=>⟨hB,fun e=>?_⟩) _ _ (by simp only [Fr]; exact ⟨trivial,hf'⟩) hd
  cases q with
  | none=>cases e
  | some i=>exact hS.1 i (hq i rfl) e
 | .row i,r,u,ho,hd=>by
  simp only [Out] at ho
  obtain ⟨e,sz,els,hi,hfr,ho⟩:=ho
  simp only [Dn] at hd
  obtain ⟨A,c,css,r1,r2,r3,r4⟩:=R.row i _ _ _ hi
  have hu : u = .slice A els.length c:=hd.2.trans r1
  subst hu
  rw [r1] at r2
  have r4' : DnLL (rsCx B w (ovOf ρ q)) els css:=DnLL.fr (C:=cxOf B ρ (hf h) w) (C':=rsCx B w (ovOf ρ q)) rfl (Nat.le_refl _) (fun k hS hB hk=>⟨hB,fun e=>by
   cases q with
   | none=>cases e
   | some i=>exact hS.1 i (hq i rfl) e⟩) _ _ hfr r4
  rcases ho with ⟨rfl,rfl⟩ | ⟨hne,rfl⟩
  ·simp only [Dn]
   exact ⟨A,c,css,rfl,⟨r1.symm,r2⟩,r3,r4'⟩
  ·refine row_sl (C:=rsCx B w (ovOf ρ q)) r2 r3 r4' (fun ad ha=>?_) (fun _=>Nat.le_refl _)
   subst ha
   refine ⟨?_,fun e=>?_⟩
   ·rcases r2.2 with ⟨hv,_⟩ | ⟨g,cap,cur,hv,hb,_⟩
    ·cases hv
    ·injection hv with hA
     injection hA with hA
     subst hA
     exact hb
   ·cases q with
    | none=>cases e
    | some j=>
     have:=R.sep j i ad.block (hq j rfl) (by rw [hi]; trivial) e (by rw [r1]; rfl)
     exact hne (by rw [this])
 | .agg ts,r,u,ho,hd=>by
  simp only [Out] at ho
  obtain ⟨rs,rfl,ho⟩:=ho
  simp only [Dn] at hd ⊢
  obtain ⟨vs,h1,h2⟩:=hd
  exact ⟨vs,h1,outL_dn R hq ts rs vs ho h2⟩
 | .tup ts,r,u,ho,hd=>by
  simp only [Out] at ho
  obtain ⟨rs,rfl,ho⟩:=ho
  simp only [Dn] at hd ⊢
  obtain ⟨vs,h1,h2⟩:=hd
  exact ⟨vs,h1,outL_dn R hq ts rs vs ho h2⟩
 | .any,r,u,ho,_ | .fn _ _,r,u,ho,_ | .ptr _ _,r,u,ho,_ | .eptr _,r,u,ho,_ | .osl _ _ _,r,u,ho,_ | .z _ _,r,u,ho,_ | .win _ _ _,r,u,ho,_=>by simp only [Out] at ho; subst ho; simp [Dn]
theorem outL_dn {ρ : Nat→Value} {w : World} {h : List LB} {q : Option Nat} (R : Rel B w0 ρ (hf h) w) (hq : ∀ i,q = some i→(hf h i).here) : ∀ (ts rs : List TV) (us : List Value),OutL h q ts rs→DnL (cxOf B ρ (hf h) w) ts us→DnL (rsCx B w (ovOf ρ q)) rs us
 | [],rs,us,ho,hd=>by simp only [OutL] at ho; subst ho; simp only [DnL] at hd ⊢; exact hd
 | t :: ts,rs,us,ho,hd=>by
  simp only [OutL] at ho
  obtain ⟨r,rs',rfl,h1,h2⟩:=ho
  simp only [DnL] at hd ⊢
  obtain ⟨u,us',h3,h4,h5⟩:=hd
  exact ⟨u,us',h3,out_dn R hq t r u h1 h4,outL_dn R hq ts rs' us' h2 h5⟩
end
def endT (P : Program) (fn : Func) (r : TV) : Exit→St→Prop:=fun e σ=>(e = .normal∨e = .ret)∧∃ tv q,ResT P fn σ tv∧Out σ.h q tv r∧∀ i,q = some i→(hf σ.h i).here
theorem TMeets.of_TW {f : FuncId} {c : Code} {args : List TV} {r : TV} (hfn : P.funcs[f]? = some fn) (hb : fn.body = some c) (hp : PuL args)
  (h : ∀ B w0,TW P B w0 [] c ⟨untagL args ++ List.replicate (fn.ntmps - args.length) .any,[],[]⟩ (endT P fn r)) : TMeets P f args r:=by
 intro C vals hgl hd
 refine calls_of_wp hfn hb ?_
 have hlen:=hd.len
 have hh : ∀ i,hf [] i = .none:=fun i=>by simp [hf]
 have R0 : RelS C.w.heap.size C.w [] (fun _=>.nilFunc) ⟨untagL args ++ List.replicate (fn.ntmps - args.length) .any,[],[]⟩ { tmps:=vals.toArray ++ Array.replicate (fn.ntmps - vals.toArray.size) undef,defers:=[] } C.w:=by
  refine ⟨?_,DnL.nil,⟨Below.refl _ _,hgl,Nat.le_refl _,fun i t cs e=>(by rw [hh i] at e; cases e),fun i e sz els e'=>(by rw [hh i] at e'; cases e'),fun i j g e=>(by rw [hh i] at e; exact e.elim),fun i g e=>(by rw [hh i] at e; exact e.elim),Oth.refl _,fun i x e=>(by rw [hh i] at e; cases e)⟩,rfl⟩
  have h1 : DnL (cxOf C.w.heap.size (fun _=>.nilFunc) (hf []) C.w) (untagL args) vals:=DnL.pu (C:=C) (C':=cxOf C.w.heap.size (fun _=>.nilFunc) (hf []) C.w) rfl (fun k _=>⟨fun i hi=>by rw [hh i] at hi; exact hi.elim,fun i hp=>by rw [hh i] at hp; exact hp.elim⟩) _ _ hp hd
  have h2:=h1.append (DnL.anys (C:=cxOf C.w.heap.size (fun _=>.nilFunc) (hf []) C.w) (fn.ntmps - args.length) (List.replicate (fn.ntmps - args.length) undef) (by simp))
  simpa [hlen] using h2
 refine wp_mono (h C.w.heap.size C.w _ _ _ R0) fun e a w' ⟨σ,ρ,⟨he,tv,q,h1,h2,h3⟩,hr⟩=>?_
 obtain ⟨u,h4,h5⟩:=resT_run hr h1
 have hfin : a.defers = []∧∃ v,(results fn a.tmps).run P w' = .ok v w'∧(∃ u ov,Ending.returned v = .returned u∧Below C.w.heap.size C.w w'∧(∀ g,blkOf ov = some g→C.w.heap.size ≤ g∧g < w'.heap.size)∧Dn (rsCx C.w.heap.size w' ov) r u):=by
  refine ⟨hr.defers,u,h4,u,ovOf ρ q,rfl,hr.rel.below,fun g hg=>?_,out_dn hr.rel h3 _ _ _ h2 h5⟩
  cases q with
  | none=>cases hg
  | some i=>
   refine ⟨?_,hr.rel.inj i g (h3 i rfl) hg⟩
   have hi:=h3 i rfl
   cases hh : hf σ.h i with
   | none=>rw [hh] at hi; exact hi.elim
   | ext x=>have hg' : blkOf (ρ i) = some g:=hg; rw [(hr.rel.ext i x hh).no] at hg'; cases hg'
   | cells t cs=>
    obtain ⟨vs,_,h7,_⟩:=hr.rel.cells_at hh hg
    exact h7
   | row e sz els=>
    obtain ⟨A,c,css,r1,r2,_⟩:=hr.rel.row i _ _ _ hh
    have hg' : blkOf (ρ i) = some g:=hg
    rw [r1] at r2 hg'
    rcases r2.2 with ⟨hv,_⟩ | ⟨g',cap,cur,hv,hb,_⟩
    ·rw [hv] at hg'; cases hg'
    ·rw [hv] at hg'
     simp only [blkOf,Option.some.injEq] at hg'
     omega
 rcases he with rfl | rfl <;> exact hfin
theorem TL.inline {Q : Exit→St→Prop} {ops : Array Oper} {o : Oper} {rest : List Oper} {cl : Call} {fop : Operand} {f : FuncId} {caps : List TV} {c : Code} (hg : o.guard = none) (ho : o.op = .call cl) (hcl : cl.callee = .value fop) (hf' : tev σ.s fop = .fn (.func f) caps) (hE : entB P f = true)
  (hfn : P.funcs[f]? = some fn) (hb : fn.body = some c)
  (h : ∀ gh',TW P B w0 gh' c ⟨(cl.args.toList.map (tev σ.s) ++ caps) ++ List.replicate (fn.ntmps - (cl.args.toList.map (tev σ.s) ++ caps).length) .any,σ.h,σ.s ++ σ.g⟩
   (fun e σ'=>(e = .normal∨e = .ret)∧∃ tv,ResT P fn σ' tv∧TL P B w0 gh ops rest ⟨match o.dst with | some d=>(σ'.g.take σ.s.length).set d tv | none=>σ'.g.take σ.s.length,σ'.h,σ'.g.drop σ.s.length⟩ Q)) : TL P B w0 gh ops (o :: rest) σ Q:=fun ρ a w hr=>by
 have e1:=tev_dn hr.slots fop
 rw [hf'] at e1
 simp only [Dn] at e1
 obtain ⟨cv,h2,h3⟩:=e1
 have h4 : DnL (cxOf B ρ (hf σ.h) w) (cl.args.toList.map (tev σ.s) ++ caps) (cl.args.toList.map a.eval ++ cv):=(eval_list _ fun x _=>tev_dn hr.slots x).append h3
 have hl4:=h4.len
 refine wpList_plain hg fun K hK=>?_
 unfold Oper.wp
 rw [call_run ho hcl h2 hE]
 unfold Oper.upon
 refine Calls.mono ?_ (R:=fun e w'=>∃ u,e = .returned u∧wpList P ops (liftQ B w0 gh Q) rest (a.put o.dst u) w') ?_
 ·refine calls_of_wp hfn hb ?_
  have R1 : RelS B w0 (a.tmps.toList ++ gh) ρ ⟨(cl.args.toList.map (tev σ.s) ++ caps) ++ List.replicate (fn.ntmps - (cl.args.toList.map (tev σ.s) ++ caps).length) .any,σ.h,σ.s ++ σ.g⟩ { tmps:=(cl.args.map a.eval ++ cv.toArray) ++ Array.replicate (fn.ntmps - (cl.args.map a.eval ++ cv.toArray).size) undef,defers:=[] } w:=by
   refine ⟨?_,hr.slots.append hr.ghost,hr.rel,rfl⟩
   have h6:=h4.append (DnL.anys (C:=cxOf B ρ (hf σ.h) w) (fn.ntmps - (cl.args.toList.map (tev σ.s) ++ caps).length) (List.replicate (fn.ntmps - (cl.args.toList.map (tev σ.s) ++ caps).length) undef) (by simp))
   have e2 : ((cl.args.map a.eval ++ cv.toArray) ++ Array.replicate (fn.ntmps - (cl.args.map a.eval ++ cv.toArray).size) undef).toList = (cl.args.toList.map a.eval ++ cv) ++ List.replicate (fn.ntmps - (cl.args.toList.map (tev σ.s) ++ caps).length) undef:=by
    have : (cl.args.map a.eval ++ cv.toArray).size = (cl.args.toList.map (tev σ.s) ++ caps).length:=by
     rw [← hl4]
     simp
    rw [this]
    simp
   rw [e2]
   exact h6
  refine wp_mono (h _ ρ _ _ R1) fun e a' w' ⟨σ',ρ',⟨he,tv,h7,h8⟩,hr'⟩=>?_
  obtain ⟨u,h9,h10⟩:=resT_run hr' h7
  have hfin : a'.defers = []∧∃ v,(results fn a'.tmps).run P w' = .ok v w'∧(∃ u,Ending.returned v = .returned u∧wpList P ops (liftQ B w0 gh Q) rest (a.put o.dst u) w'):=by
   refine ⟨hr'.defers,u,h9,u,rfl,h8 ρ' _ _ ⟨?_,?_,hr'.rel,by rw [put_defers]; exact hr.defers⟩⟩
   ·have hl : a.tmps.toList.length = σ.s.length:=hr.slots.len
    have h11:=hr'.ghost.take σ.s.length
    rw [← hl,List.take_left] at h11
    rw [← hl]
    exact put_dn h11 h10
   ·have hl : a.tmps.toList.length = σ.s.length:=hr.slots.len
    have h11:=hr'.ghost.drop σ.s.length
    rw [← hl,List.drop_left] at h11
    rw [← hl]
    exact h11
  rcases he with rfl | rfl <;> exact hfin
 ·rintro e w' ⟨u,rfl,h5⟩
  exact hK _ _ h5
theorem dn_sees {C : Cx} {b : Bool} {els : List (List TV)} {u : Value} {sz : Nat} (h : Dn C (.sl b els) u) (hs : ∀ c ∈ els,c.length = sz) (h0 : 0 < sz) :
  ∃ A c css,u = .slice A els.length c∧els.length ≤ c∧c ≤ maxLen∧Sees C.w none sz A els.length css.flatten∧DnLL C els css∧∀ x ∈ css,x.length = sz:=by
 simp only [Dn] at h
 obtain ⟨A,c,css,sz',h1,h2,h3,h4,h5,h6,h7⟩:=h
 have hl : ∀ x ∈ css,x.length = sz:=fun x hx=>by
  obtain ⟨i,hi⟩:=List.getElem?_of_mem hx
  have hil:=(List.getElem?_eq_some_iff.1 hi).1
  have hel : i < els.length:=by rw [← h6.len]; exact hil
  obtain ⟨cv,h8,h9⟩:=h6.at_ i els[i] (List.getElem?_eq_getElem hel)
  rw [hi] at h8
  injection h8 with h8
  subst h8
  rw [h9.len,hs _ (List.getElem_mem hel)]
 have hflat : css.flatten.length = els.length * sz:=by
  rw [← h6.len]
  clear h5 h6 h7
  induction css with
  | nil=>simp
  | cons x css ih=>rw [List.flatten_cons,List.length_append,ih (fun y hy=>hl y (by simp [hy])),hl x (by simp),List.length_cons,Nat.add_mul]; omega
 refine ⟨A,c,css,h1,h2,h3,⟨hflat,fun ha=>by rw [h4 ha]; rfl,fun ad ha=>⟨fun hn=>?_,(h7 ad ha).2⟩⟩,h6,hl⟩
 have hpos : 0 < css.flatten.length:=by rw [hflat]; exact Nat.mul_pos hn h0
 have:=(h7 ad ha).2 0 _ (List.getElem?_eq_getElem hpos)
 unfold World.cell? at this
 have hab : (ad.add 0).block = ad.block:=addr_block _ _
 rw [hab] at this
 split at this
 ·rename_i c0 t0 fz hc0
  exact ⟨c0,t0,fz,hc0,fun _ h=>by cases h⟩
 ·cases this
def Elems (σ : St) (x : Operand) (ys : List (List TV)) : Prop:=
 (∃ b,tev σ.s x = .sl b ys)∨(∃ j e sz,tev σ.s x = .row j∧hf σ.h j = .row e sz ys)∨(tev σ.s x = .nil_∧ys = [])
theorem elems_sees {ρ : Nat→Value} {a : Act} {w : World} (hr : RelS B w0 gh ρ σ a w) {x : Operand} {ys : List (List TV)} {sz : Nat} (hx : Elems σ x ys) (hs : ∀ c ∈ ys,c.length = sz) (h0 : 0 < sz) :
  ∃ A c css,a.eval x = .slice A ys.length c∧Sees w none sz A ys.length css.flatten∧DnLL (cxOf B ρ (hf σ.h) w) ys css∧∀ x ∈ css,x.length = sz:=by
 have h1:=tev_dn hr.slots x
 rcases hx with ⟨b,hx⟩ | ⟨j,e,sz',hx,hj⟩ | ⟨hx,rfl⟩
 ·rw [hx] at h1
  obtain ⟨A,c,css,r1,_,_,r2,r3,r4⟩:=dn_sees h1 hs h0
  exact ⟨A,c,css,r1,r2,r3,r4⟩
 ·rw [hx] at h1
  simp only [Dn] at h1
  obtain ⟨A,c,css,r1,r2,r3,r4⟩:=hr.rel.row j _ _ _ hj
  have hu : a.eval x = .slice A ys.length c:=h1.2.trans r1
  rw [r1] at r2
  rcases Nat.eq_zero_or_pos ys.length with hy | hy
  ·have hys:=List.eq_nil_of_length_eq_zero hy
   subst hys
   have hc:=r4.len
   have hcss:=List.eq_nil_of_length_eq_zero hc
   subst hcss
   refine ⟨A,c,[],hu,⟨by simp,fun _=>rfl,fun ad _=>⟨fun hn=>by simp at hn,fun j u hu=>by simp at hu⟩⟩,r4,by simp⟩
  ·have hsz : sz' = sz:=by
    have hel : 0 < ys.length:=hy
    obtain ⟨cv,h8,h9⟩:=r4.at_ 0 ys[0] (List.getElem?_eq_getElem hel)
    rw [← r3 cv (List.mem_of_getElem? h8),h9.len,hs _ (List.getElem_mem hel)]
   subst hsz
   have hS:=Sees.of_own r2
   exact ⟨A,c,css,hu,⟨hS.1,hS.2.1,fun ad ha=>⟨fun hn=>by obtain ⟨cur,t,fz,hc,_⟩:=(hS.2.2 ad ha).1 hn; exact ⟨cur,t,fz,hc,fun _ h=>by cases h⟩,(hS.2.2 ad ha).2⟩⟩,r4,r3⟩
 ·rw [hx] at h1
  simp only [Dn] at h1
  exact ⟨none,0,[],h1,by simpa using Sees.nil w none sz,by simp [DnLL],by simp⟩
theorem elems_one {ρ : Nat→Value} {h' : Nat→LB} {w : World} (R : Rel B w0 ρ h' w) : ∀ {ys : List (List TV)} {css : List (List Value)},DnLL (cxOf B ρ h' w) ys css→(∀ c ∈ ys,c.all TV.one = true)→∀ u ∈ css.flatten,u.oneCell' = true
 | [],css,hd,_,u,hu=>by simp only [DnLL] at hd; subst hd; simp at hu
 | t :: l,css,hd,ha,u,hu=>by
  simp only [DnLL] at hd
  obtain ⟨u0,us',rfl,h2,h3⟩:=hd
  rw [List.flatten_cons,List.mem_append] at hu
  rcases hu with hu | hu
  ·exact cells_one R h2 (ha t (by simp)) u hu
  ·exact elems_one R h3 (fun c hc=>ha c (by simp [hc])) u hu
theorem hf_map_set {h : List LB} {i : Nat} {p : Nat→Bool} (hi : i < h.length) (b : LB) : hf ((h.map (LB.kp p)).set i b) = updf (fun j=>(hf h j).kp p) i b:=by
 rw [hf_set (by simpa using hi)]
 congr 1
 funext j
 unfold hf
 rcases Nat.lt_or_ge j h.length with h1 | h1
 ·simp [List.getD,h1]
 ·simp [List.getD,List.getElem?_eq_none h1,LB.kp]
theorem kpLL_append (p : Nat→Bool) : ∀ a b : List (List TV),kpLL p (a ++ b) = kpLL p a ++ kpLL p b
 | [],b=>rfl
 | x :: a,b=>by simp [kpLL,kpLL_append p a b]
structure ApTy (P : Program) (t : TypeId) (ti te : TI) : Prop where
 ht : tiOf P t = some ti
 hk : ti.k = 3
 he : tiOf P ti.el = some te
 hz : ∃ z,(P.info? ti.el).map (·.zero) = some (some z)∧z.cells.size = te.n
 hn : 0 < te.n
 hb : 0 < te.by_
theorem ApTy.elem {t : TypeId} {ti te : TI} (T : ApTy P t ti te) : ∃ z,ElemTy P t ti.el z te.n te.by_:=by
 obtain ⟨z,hz,hzs⟩:=T.hz
 obtain ⟨i,hi,h1,h2⟩:=ti_info T.he
 refine ⟨z,ti_slice T.ht T.hk,?_,hzs,T.hn,T.hb⟩
 rw [hi] at hz ⊢
 simp at hz ⊢
 exact ⟨hz,h1,h2⟩
theorem TL.append {Q : Exit→St→Prop} {ops : Array Oper} {o : Oper} {rest : List Oper} {cl : Call} {s x : Operand} {t : TypeId} {i : Nat} {els ys : List (List TV)} {ti te : TI} (hg : o.guard = none) (ho : o.op = .call cl) (hcl : cl = { callee:=.builtin .append,args:=#[s,x],argTypes:=#[t,t] })
  (T : ApTy P t ti te) (hs : tev σ.s s = .row i) (hi : hf σ.h i = .row ti.el te.n els) (hx : Elems σ x ys) (hlen : ∀ c ∈ ys,c.length = te.n) (hone : ∀ c ∈ ys,c.all TV.one = true) (hbd : (els.length + ys.length) * te.by_ ≤ 140737488355328)
  (h : TL P B w0 gh ops rest ⟨match o.dst with | some d=>(kpL (bar i) σ.s).set d (.row i) | none=>kpL (bar i) σ.s,(σ.h.map (LB.kp (bar i))).set i (.row ti.el te.n (kpLL (bar i) els ++ kpLL (bar i) ys)),kpL (bar i) σ.g⟩ Q) : TL P B w0 gh ops (o :: rest) σ Q:=fun ρ a w hr=>by
 have R:=hr.rel
 have e1:=tev_dn hr.slots s
 rw [hs] at e1
 simp only [Dn] at e1
 obtain ⟨A,c,css,r1,r2,r3,r4⟩:=R.row i _ _ _ hi
 have hu : a.eval s = .slice A els.length c:=e1.2.trans r1
 rw [r1] at r2
 obtain ⟨A2,c2,css2,s1,s2,s3,s4⟩:=elems_sees hr hx hlen T.hn
 obtain ⟨z,E⟩:=T.elem
 refine wl_append E r2 s2 rfl rfl (elems_one R s3 hone) hbd R.size hg (by rw [ho,hcl]) hu s1 fun A' c' w' hown hbel hgr hor=>?_
 have hhere : (hf σ.h i).here:=by rw [hi]; trivial
 have hblk : blkOf (ρ i) = Value.ownBlock (.slice A els.length c):=by rw [r1]; cases A <;> rfl
 have hown' : blkOf (.slice A' (els.length + ys.length) c') = Value.ownBlock (.slice A' (els.length + ys.length) c'):=by cases A' <;> rfl
 have hBn : ∀ g,blkOf (ρ i) = some g→B ≤ g:=fun g hgg=>by
  rw [hblk] at hgg
  exact (r2.lt g hgg).1
 have hr' : ∀ g,blkOf (.slice A' (els.length + ys.length) c') = some g→g < w'.heap.size∧(blkOf (ρ i) = some g∨w.heap.size ≤ g):=fun g hgg=>by
  rw [hown'] at hgg
  refine ⟨(hown.lt g hgg).2,?_⟩
  rw [hblk]
  rcases hor with h1 | h1
  ·exact .inl (h1 ▸ hgg)
  ·rw [h1] at hgg
   injection hgg with hgg
   exact .inr (by omega)
 have hgr' : w.grownBy w' (blkOf (ρ i)):=by rw [hblk]; exact hgr
 have hil : i < σ.h.length:=hf_lt hi (by simp)
 have KK : Keeps ((cxOf B ρ (hf σ.h) w).less (bar i)) (cxOf B (updf ρ i (.slice A' (els.length + ys.length) c')) (updf (fun j=>(hf σ.h j).kp (bar i)) i (.row ti.el te.n (kpLL (bar i) els ++ kpLL (bar i) ys))) w'):=.renew hhere hgr' (fun g hgg=>(hr' g hgg).2)
 refine h (updf ρ i (.slice A' (els.length + ys.length) c')) _ _ ⟨?_,?_,?_,by rw [put_defers]; exact hr.defers⟩
 ·simp only [hf_map_set hil]
  refine put_dn (DnL.keep KK _ _ (DnL.kp (bar i) _ _ hr.slots)) ?_
  simp only [Dn]
  refine ⟨?_,?_⟩
  ·show LB.here (updf _ i _ i)
   rw [updf_same]; trivial
  ·show _ = updf ρ i _ i
   rw [updf_same]
 ·simp only [hf_map_set hil]
  exact DnL.keep KK _ _ (DnL.kp (bar i) _ _ hr.ghost)
 ·simp only [hf_map_set hil]
  refine R.renew hhere hgr' hBn hr' (fun t cs e=>by cases e) (fun e sz els' e'=>?_)
  injection e' with e2 e3 e4
  subst e2 e3 e4
  refine ⟨A',c',css ++ css2,by simp [kpLL_len],?_,fun y hy=>?_,?_⟩
  ·have : (kpLL (bar i) els ++ kpLL (bar i) ys).length = els.length + ys.length:=by simp [kpLL_len]
   rw [this,List.flatten_append]
   exact hown
  ·rcases List.mem_append.1 hy with hy | hy
   ·exact r3 y hy
   ·exact s4 y hy
  ·exact (DnLL.keep KK _ _ (DnLL.kp (bar i) _ _ r4)).append (DnLL.keep KK _ _ (DnLL.kp (bar i) _ _ s3))
theorem TL.append_nil {Q : Exit→St→Prop} {ops : Array Oper} {o : Oper} {rest : List Oper} {cl : Call} {s x : Operand} {t : TypeId} {ys : List (List TV)} {ti te : TI} (hg : o.guard = none) (ho : o.op = .call cl) (hcl : cl = { callee:=.builtin .append,args:=#[s,x],argTypes:=#[t,t] })
  (T : ApTy P t ti te) (hs : tev σ.s s = .nil_) (hx : Elems σ x ys) (hlen : ∀ c ∈ ys,c.length = te.n) (hone : ∀ c ∈ ys,c.all TV.one = true) (hbd : ys.length * te.by_ ≤ 140737488355328)
  (h : TL P B w0 gh ops rest ⟨match o.dst with | some d=>σ.s.set d (.row σ.h.length) | none=>σ.s,σ.h ++ [.row ti.el te.n ys],σ.g⟩ Q) : TL P B w0 gh ops (o :: rest) σ Q:=fun ρ a w hr=>by
 have R:=hr.rel
 have e1:=tev_dn hr.slots s
 rw [hs] at e1
 simp only [Dn] at e1
 obtain ⟨A2,c2,css2,s1,s2,s3,s4⟩:=elems_sees hr hx hlen T.hn
 obtain ⟨z,E⟩:=T.elem
 refine wl_append E (World.ownsRow_nil w w.heap.size ti.el te.n) s2 (Nat.zero_add _) (List.nil_append _) (elems_one R s3 hone) hbd (Nat.le_refl _) hg (by rw [ho,hcl]) e1 s1 fun A' c' w' hown hbel hgr hor=>?_
 have hown' : blkOf (.slice A' ys.length c') = Value.ownBlock (.slice A' ys.length c'):=by cases A' <;> rfl
 have hnone : hf σ.h σ.h.length = .none:=hf_ge (Nat.le_refl _)
 have hr' : ∀ g,blkOf (.slice A' ys.length c') = some g→w.heap.size ≤ g∧g < w'.heap.size:=fun g hgg=>by
  rw [hown'] at hgg
  exact hown.lt g hgg
 have KK : Keeps (cxOf B ρ (hf σ.h) w) (cxOf B (updf ρ σ.h.length (.slice A' ys.length c')) (updf (hf σ.h) σ.h.length (.row ti.el te.n ys)) w'):=.add hnone hbel hr'
 refine h (updf ρ σ.h.length (.slice A' ys.length c')) _ _ ⟨?_,?_,?_,by rw [put_defers]; exact hr.defers⟩
 ·simp only [hf_app]
  refine put_dn (DnL.keep KK _ _ hr.slots) ?_
  simp only [Dn]
  refine ⟨?_,?_⟩
  ·show LB.here (updf _ σ.h.length _ σ.h.length)
   rw [updf_same]; trivial
  ·show _ = updf ρ σ.h.length _ σ.h.length
   rw [updf_same]
 ·simp only [hf_app]
  exact DnL.keep KK _ _ hr.ghost
 ·simp only [hf_app]
  refine R.add hnone hbel hr' (fun t cs e=>by cases e) (fun e sz els' e'=>?_)
  injection e' with e2 e3 e4
  subst e2 e3 e4
  exact ⟨A',c',css2,rfl,own_mono hown R.size,s4,DnLL.keep KK _ _ s3⟩
end
end Go.Proofs.YtpgfhkbnngjegaaGreatDoor
