/- Lists of operations, and code, as a proposition that is reckoned. Condition: what the program's table says of types. -/
import Derived.Test.YtpgfhkbnngjegaaGreatDoorU2
namespace Go.Proofs.YtpgfhkbnngjegaaGreatDoor
open Go.RowKit
set_option linter.unusedVariables false
set_option linter.unusedSimpArgs false
abbrev Frames:=List (Nat × Env)
mutual
def kpX (i : Nat) : XV→XV
 | .p t h=>.p t h
 | .any=>.any
 | .row j=>match Nat.beq j i with
  | true=>.any
  | false=>.row j
 | .ptr j off=>match Nat.beq j i with
  | true=>.any
  | false=>.ptr j off
 | .rp j k sz o=>match Nat.beq j i with
  | true=>.any
  | false=>.rp j k sz o
 | .ag vs=>.ag (kpXL i vs)
 | .tu vs=>.tu (kpXL i vs)
 | .fu f vs=>.fu f (kpXL i vs)
 | .ow e sz els h=>.ow e sz els h
 | .pin u t h=>.pin u t h
 | .z j t h=>match Nat.beq j i with
  | true=>.any
  | false=>.z j t h
 | .win j k sz=>match Nat.beq j i with
  | true=>.any
  | false=>.win j k sz
def kpXL (i : Nat) : List XV→List XV
 | []=>[]
 | v :: vs=>kpX i v :: kpXL i vs
end
theorem bar_beq (j i : Nat) : bar i j = !(Nat.beq j i):=by
 unfold bar
 cases hb : Nat.beq j i with
 | true=>have:=Nat.eq_of_beq_eq_true hb; simp [this]
 | false=>have:=Nat.ne_of_beq_eq_false hb; simp [this]
mutual
theorem kpX_den (i : Nat) : ∀ v : XV,(kpX i v).den = kp (bar i) v.den
 | .p t h=>(h.k _).symm
 | .any=>rfl
 | .row j=>by
  simp only [kpX,XV.den,kp,bar_beq]
  cases Nat.beq j i <;> rfl
 | .ptr j off=>by
  simp only [kpX,XV.den,kp,bar_beq]
  cases Nat.beq j i <;> rfl
 | .rp j k sz o=>by
  simp only [kpX,XV.den,kp,bar_beq]
  cases Nat.beq j i <;> rfl
 | .ag vs=>by simp only [kpX,XV.den,kp,kpXL_den i vs]
 | .tu vs=>by simp only [kpX,XV.den,kp,kpXL_den i vs]
 | .fu f vs=>by simp only [kpX,XV.den,kp,kpXL_den i vs]
 | .ow e sz els h=>by simp only [kpX,XV.den,kp,h.k]
 | .pin u t h=>rfl
 | .z j t h=>by
  simp only [kpX,XV.den,kp,bar_beq]
  cases Nat.beq j i <;> rfl
 | .win j k sz=>by
  simp only [kpX,XV.den,kp,bar_beq]
  cases Nat.beq j i <;> rfl
theorem kpXL_den (i : Nat) : ∀ vs : List XV,XV.denL (kpXL i vs) = kpL (bar i) (XV.denL vs)
 | []=>rfl
 | v :: vs=>by simp only [kpXL,XV.denL,kpL,kpX_den i v,kpXL_den i vs]
end
mutual
def fzX (j : Nat) (x : XV) : XV→XV
 | .p t h=>.p t h
 | .any=>.any
 | .row i=>match Nat.beq i j with
  | true=>x
  | false=>.row i
 | .ptr i off=>match Nat.beq i j with
  | true=>.any
  | false=>.ptr i off
 | .rp i k sz o=>match Nat.beq i j with
  | true=>.any
  | false=>.rp i k sz o
 | .ag vs=>.ag (fzXL j x vs)
 | .tu vs=>.tu (fzXL j x vs)
 | .fu f vs=>.fu f (fzXL j x vs)
 | .ow e sz els h=>.ow e sz els h
 | .pin u t h=>.pin u t h
 | .z i t h=>match Nat.beq i j with
  | true=>.any
  | false=>.z i t h
 | .win i k sz=>match Nat.beq i j with
  | true=>.any
  | false=>.win i k sz
def fzXL (j : Nat) (x : XV) : List XV→List XV
 | []=>[]
 | v :: vs=>fzX j x v :: fzXL j x vs
end
theorem if_beq {α : Type} (i j : Nat) (a b : α) : (if i = j then a else b) = match Nat.beq i j with
  | true=>a
  | false=>b:=by
 cases hb : Nat.beq i j with
 | true=>have:=Nat.eq_of_beq_eq_true hb; simp [this]
 | false=>have:=Nat.ne_of_beq_eq_false hb; simp [this]
mutual
theorem fzX_den (j : Nat) (x : XV) : ∀ v : XV,(fzX j x v).den = fz j x.den v.den
 | .p t h=>(h.f _ _).symm
 | .any=>rfl
 | .row i=>by
  simp only [fzX,XV.den,fz,if_beq]
  cases Nat.beq i j <;> rfl
 | .ptr i off=>by
  simp only [fzX,XV.den,fz,if_beq]
  cases Nat.beq i j <;> rfl
 | .rp i k sz o=>by
  simp only [fzX,XV.den,fz,if_beq]
  cases Nat.beq i j <;> rfl
 | .ag vs=>by simp only [fzX,XV.den,fz,fzXL_den j x vs]
 | .tu vs=>by simp only [fzX,XV.den,fz,fzXL_den j x vs]
 | .fu f vs=>by simp only [fzX,XV.den,fz,fzXL_den j x vs]
 | .ow e sz els h=>by simp only [fzX,XV.den,fz,h.f]
 | .pin u t h=>rfl
 | .z i t h=>by
  simp only [fzX,XV.den,fz,if_beq]
  cases Nat.beq i j <;> rfl
 | .win i k sz=>by
  simp only [fzX,XV.den,fz,if_beq]
  cases Nat.beq i j <;> rfl
theorem fzXL_den (j : Nat) (x : XV) : ∀ vs : List XV,XV.denL (fzXL j x vs) = fzL j x.den (XV.denL vs)
 | []=>rfl
 | v :: vs=>by simp only [fzXL,XV.denL,fzL,fzX_den j x v,fzXL_den j x vs]
end
def mapE (f : XV→XV) : Env→Env
 | []=>[]
 | (d,v) :: r=>(d,f v) :: mapE f r
theorem look_map {f : XV→XV} (hf : f .any = .any) : ∀ (e : Env) (d : Nat),look (mapE f e) d = f (look e d)
 | [],d=>hf.symm
 | (d0,v) :: r,d=>by
  simp only [mapE,look]
  cases Nat.beq d0 d
  ·exact look_map hf r d
  ·rfl
def mapB (f : XV→XV) : XLB→XLB
 | .none=>.none
 | .cells t cs=>.cells t (cs.map f)
 | .row e sz els h=>.row e sz els h
 | .ext x=>.ext x
 | .rowF e sz pre hp cs post hq=>.rowF e sz pre hp (cs.map f) post hq
def mapG (f : XV→XV) : Frames→Frames
 | []=>[]
 | (n,e) :: r=>(n,mapE f e) :: mapG f r
def turnK (f : XV→XV) (e : Env) (h : List XLB) (gs : Frames) (k : Env→List XLB→Frames→Prop) : Prop:=forceE (mapE f e) fun e'=>forceH (h.map (mapB f)) fun h'=>forceG (mapG f gs) fun gs'=>k e' h' gs'
theorem turnK_ok {f : XV→XV} {e : Env} {h : List XLB} {gs : Frames} {k : Env→List XLB→Frames→Prop} (hh : turnK f e h gs k) : k (mapE f e) (h.map (mapB f)) (mapG f gs):=
 forceG_ok (k:=fun gs'=>k (mapE f e) (h.map (mapB f)) gs') (forceH_ok (k:=fun h'=>forceG (mapG f gs) fun gs'=>k (mapE f e) h' gs') (forceE_ok (k:=fun e'=>forceH (h.map (mapB f)) fun h'=>forceG (mapG f gs) fun gs'=>k e' h' gs') hh))
theorem kpL_map (p : Nat→Bool) : ∀ ts : List TV,kpL p ts = ts.map (kp p)
 | []=>rfl
 | t :: ts=>by simp [kpL,kpL_map p ts]
theorem fzL_map (j : Nat) (x : TV) : ∀ ts : List TV,fzL j x ts = ts.map (fz j x)
 | []=>rfl
 | t :: ts=>by simp [fzL,fzL_map j x ts]
theorem toL_kp (n i : Nat) (e : Env) : toL n (mapE (kpX i) e) = kpL (bar i) (toL n e):=by
 rw [kpL_map]
 simp only [toL,List.map_map]
 exact List.map_congr_left fun d _=>by simp only [Function.comp,look_map (f:=kpX i) rfl,kpX_den]
theorem toL_fz (n j : Nat) (x : XV) (e : Env) : toL n (mapE (fzX j x) e) = fzL j x.den (toL n e):=by
 rw [fzL_map]
 simp only [toL,List.map_map]
 exact List.map_congr_left fun d _=>by simp only [Function.comp,look_map (f:=fzX j x) rfl,fzX_den]
theorem denG_kp (i : Nat) : ∀ gs : Frames,denG (mapG (kpX i) gs) = kpL (bar i) (denG gs)
 | []=>rfl
 | (n,e) :: r=>by simp only [mapG,denG,toL_kp,denG_kp i r,kpL_map,List.map_append]
theorem denG_fz (j : Nat) (x : XV) : ∀ gs : Frames,denG (mapG (fzX j x) gs) = fzL j x.den (denG gs)
 | []=>rfl
 | (n,e) :: r=>by simp only [mapG,denG,toL_fz,denG_fz j x r,fzL_map,List.map_append]
theorem fzLL_append (j : Nat) (x : TV) : ∀ a b : List (List TV),fzLL j x (a ++ b) = fzLL j x a ++ fzLL j x b
 | [],b=>rfl
 | t :: a,b=>by simp [fzLL,fzLL_append j x a b]
theorem mapB_kp (i : Nat) (b : XLB) : (mapB (kpX i) b).den = b.den.kp (bar i):=by
 cases b with
 | none=>rfl
 | cells t cs=>
  simp only [mapB,XLB.den,LB.kp,denL_map,List.map_map,kpL_map]
  congr 1
  exact List.map_congr_left fun d _=>kpX_den i d
 | row e sz els h=>simp only [mapB,XLB.den,LB.kp,h.k]
 | ext x=>rfl
 | rowF e sz pre hp cs post hq=>
  have e1 : XV.denL (cs.map (kpX i)) = kpL (bar i) (XV.denL cs):=by
   simp only [denL_map,List.map_map,kpL_map]
   exact List.map_congr_left fun d _=>kpX_den i d
  have e2 : kpLL (bar i) (pre ++ XV.denL cs :: post) = kpLL (bar i) pre ++ kpL (bar i) (XV.denL cs) :: kpLL (bar i) post:=by rw [kpLL_append]; rfl
  simp only [mapB,XLB.den,LB.kp,e1,e2,hp.k,hq.k]
theorem mapB_fz (j : Nat) (x : XV) (b : XLB) : (mapB (fzX j x) b).den = b.den.fz j x.den:=by
 cases b with
 | none=>rfl
 | cells t cs=>
  simp only [mapB,XLB.den,LB.fz,denL_map,List.map_map,fzL_map]
  congr 1
  exact List.map_congr_left fun d _=>fzX_den j x d
 | row e sz els h=>simp only [mapB,XLB.den,LB.fz,h.f]
 | ext x=>rfl
 | rowF e sz pre hp cs post hq=>
  have e1 : XV.denL (cs.map (fzX j x)) = fzL j x.den (XV.denL cs):=by
   simp only [denL_map,List.map_map,fzL_map]
   exact List.map_congr_left fun d _=>fzX_den j x d
  have e2 : fzLL j x.den (pre ++ XV.denL cs :: post) = fzLL j x.den pre ++ fzL j x.den (XV.denL cs) :: fzLL j x.den post:=by rw [fzLL_append]; rfl
  simp only [mapB,XLB.den,LB.fz,e1,e2,hp.f,hq.f]
theorem hmap_kp (i : Nat) (h : List XLB) : (h.map (mapB (kpX i))).map XLB.den = (h.map XLB.den).map (LB.kp (bar i)):=by
 simp only [List.map_map]
 exact List.map_congr_left fun b _=>mapB_kp i b
theorem hmap_fz (j : Nat) (x : XV) (h : List XLB) : (h.map (mapB (fzX j x))).map XLB.den = (h.map XLB.den).map (LB.fz j x.den):=by
 simp only [List.map_map]
 exact List.map_congr_left fun b _=>mapB_fz j x b
def putK (n : Nat) (e : Env) (dst : Option Tmp) (v : XV) (k : Env→Prop) : Prop:=match dst with
 | none=>k e
 | some d=>match Nat.blt d n with
  | true=>k ((d,v) :: e)
  | false=>False
theorem putK_ok {n : Nat} {e : Env} {dst : Option Tmp} {v : XV} {k : Env→Prop} (hh : putK n e dst v k) : ∃ e',toL n e' = putO (toL n e) dst v.den∧k e':=by
 cases dst with
 | none=>exact ⟨e,rfl,hh⟩
 | some d=>
  simp only [putK] at hh
  cases h1 : Nat.blt d n with
  | true=>
   rw [h1] at hh
   exact ⟨_,toL_set e v (Nat.blt_eq.mp h1),hh⟩
  | false=>
   rw [h1] at hh
   exact hh.elim
def addK (h : List XLB) (new : Option XLB) (k : List XLB→Prop) : Prop:=match new with
 | none=>k h
 | some b=>appK h [b] k
theorem addK_ok {h : List XLB} {new : Option XLB} {k : List XLB→Prop} (hh : addK h new k) : ∃ h',h'.map XLB.den = addO (h.map XLB.den) (new.map XLB.den)∧k h':=by
 cases new with
 | none=>exact ⟨h,rfl,hh⟩
 | some b=>exact ⟨_,by simp [addO],appK_ok hh⟩
def valK (v : XV) (k : Value→Prop) : Prop:=match v with
 | .p (.v x) _=>k x
 | _=>False
theorem valK_ok {v : XV} {k : Value→Prop} (hh : valK v k) : ∃ x,v.den = .v x∧k x:=by
 unfold valK at hh
 split at hh
 ·exact ⟨_,rfl,hh⟩
 ·exact hh.elim
def guardK (n : Nat) (L : List Oper) (e : Env) (g : Option (Nat × Bool)) (run skip : Prop) : Prop:=match g with
 | none=>run
 | some q=>match nthO L q.1 with
  | none=>False
  | some og=>match og.dst with
   | none=>False
   | some d=>match Nat.blt d n with
    | false=>False
    | true=>valK (look e d) fun x=>match x with
     | .bool b=>match q.2 with
      | true=>bcase b run skip
      | false=>bcase b skip run
     | _=>skip
theorem guardK_ok {n : Nat} {L : List Oper} {e : Env} {g : Option (Nat × Bool)} {run skip : Prop} (hh : guardK n L e g run skip) :
  (g = none∧run)∨(∃ j b og d,g = some (j,b)∧L[j]? = some og∧og.dst = some d∧d < n∧((tev (toL n e) (.tmp d) = .v (.bool b)∧run)∨(∃ x,tev (toL n e) (.tmp d) = .v x∧isB x b = false∧skip))):=by
 unfold guardK at hh
 split at hh
 ·exact .inl ⟨rfl,hh⟩
 ·rename_i q
  split at hh
  ·exact hh.elim
  ·rename_i og hog
   rw [nthO_eq] at hog
   split at hh
   ·exact hh.elim
   ·rename_i d hd
    split at hh
    ·exact hh.elim
    ·rename_i hlt
     have hlt:=Nat.blt_eq.mp hlt
     obtain ⟨x,hx,hh⟩:=valK_ok hh
     have hx' : tev (toL n e) (.tmp d) = .v x:=by rw [← hx]; exact toL_get e hlt
     refine .inr ⟨q.1,q.2,og,d,rfl,hog,hd,hlt,?_⟩
     obtain ⟨j,b⟩:=q
     simp only at hh ⊢
     split at hh
     ·rename_i b'
      cases b <;> cases b' <;> simp only [bcase] at hh
      ·exact .inl ⟨hx',hh⟩
      ·exact .inr ⟨_,hx',rfl,hh⟩
      ·exact .inr ⟨_,hx',rfl,hh⟩
      ·exact .inl ⟨hx',hh⟩
     ·rename_i hne
      refine .inr ⟨_,hx',?_,hh⟩
      cases x <;> first | rfl | exact (hne _ rfl).elim
theorem TL.want {P : Program} {B : Nat} {w0 : World} {gh : List Value} {Q : Exit→St→Prop} {ops : Array Oper} {rest : List Oper} {o : Oper} {σ : St} {j d : Nat} {og : Oper} {b : Bool} (hg : o.guard = some (j,b)) (ho : ops[j]? = some og) (hd : og.dst = some d) (hdl : d < σ.s.length) (hb : tev σ.s (.tmp d) = .v (.bool b)) (h : TL P B w0 gh ops ({ o with guard:=none } :: rest) σ Q) : TL P B w0 gh ops (o :: rest) σ Q:=fun ρ a w hr=>by
 have hy:=yielded_of hr ho hd hdl hb
 have hs':=h ρ a w hr
 unfold wpList at hs' ⊢
 rw [if_pos (by simp [Region.wanted])] at hs'
 rw [if_pos (by simp [Region.wanted,hg,hy])]
 exact hs'
theorem own_above {w : World} {base : Nat} {e : TypeId} {size n n' c : Nat} {ad : Addr} {xs : List Value} (h : w.ownsRow base e size (.slice (some ad) n c) n' xs) : base ≤ ad.block:=by
 rcases h.2 with ⟨hv,_⟩ | ⟨g,cap,cur,hv,hg,_⟩
 ·cases hv
 ·injection hv with hA
  injection hA with hA
  subst hA
  exact hg
def pinCx (B : Nat) (w0 : World) : Cx:=⟨w0,fun k=>k < B,B,fun _=>.nilFunc,fun _=>False,fun _ _ _ _ _=>False,fun _ _=>False⟩
def PinOk (B : Nat) (w0 : World) (u : Value) (t : TV) : Prop:=Dn (pinCx B w0) t u
theorem PinOk.dn {B : Nat} {w0 w : World} {ρ : Nat→Value} {h : Nat→LB} {u : Value} {t : TV} (R : Rel B w0 ρ h w) (hp : PinOk B w0 u t) : Dn (cxOf B ρ h w) t u:=by
 refine Dn.keep (C:=pinCx B w0) (C':=cxOf B ρ h w) ⟨fun k hk hs=>⟨R.below.block k hk,⟨fun i hi hb=>?_,fun i hp=>by have h1:=(R.ps_lt hp).1; have h2 : k < B:=hk; omega⟩,Nat.lt_of_lt_of_le hk R.size⟩,Nat.le_refl _,fun i hi=>hi.elim,fun _ _ _ _ _ ho=>ho.elim,fun i k hi _ _=>hi.elim⟩ _ _ hp
 have hk : k < B:=hk
 cases hh : h i with
 | none=>rw [hh] at hi; exact hi
 | ext x=>rw [(R.ext i x hh).no] at hb; cases hb
 | cells ty cs=>
  obtain ⟨g,vs,h1,_,h3,_⟩:=R.blk i ty cs hh
  rw [h1] at hb
  simp only [blkOf,Option.some.injEq] at hb
  omega
 | row e sz els=>
  obtain ⟨A,c,css,h1,h2,_⟩:=R.row i e sz els hh
  rw [h1] at hb h2
  cases A with
  | none=>simp [blkOf] at hb
  | some ad=>
   simp only [blkOf,Option.some.injEq] at hb
   have:=own_above h2
   omega
def opPins : Op→List Operand
 | .field _ x _=>[x]
 | .indexAddr _ x y=>[x,y]
 | .index _ x y=>[x,y]
 | .convert _ _ x=>[x]
 | .load _ x=>[x]
 | .fieldAddr _ x _=>[x]
 | .binOp _ _ x y _=>[x,y]
 | .extract x _=>[x]
 | .nilCheck x=>[x]
 | .box _ x=>[x]
 | .build _ parts=>parts.toList.map (·.2)
 | _=>[]
def pinE (B : Nat) (w0 : World) (e : Env) : List Operand→(Env→Prop)→Prop
 | [],k=>k e
 | .tmp d :: r,k=>match look e d with
  | .pin u t hp=>PinOk B w0 u t∧pinE B w0 ((d,.p t hp) :: e) r k
  | _=>pinE B w0 e r k
 | _ :: r,k=>pinE B w0 e r k
def PinRes (B : Nat) (w0 : World) (n : Nat) (e e' : Env) : Prop:=∀ (ρ : Nat→Value) (h : Nat→LB) (w : World) (us : List Value),Rel B w0 ρ h w→DnL (cxOf B ρ h w) (toL n e) us→DnL (cxOf B ρ h w) (toL n e') us
theorem PinRes.refl {B : Nat} {w0 : World} {n : Nat} {e : Env} : PinRes B w0 n e e:=fun _ _ _ _ _ h=>h
theorem toL_over {n d : Nat} (e : Env) (v : XV) (h : ¬ d < n) : toL n ((d,v) :: e) = toL n e:=by
 unfold toL
 refine List.map_congr_left fun x hx=>?_
 have:=List.mem_range.1 hx
 rw [look_ne e v (by omega)]
theorem PinRes.one {B : Nat} {w0 : World} {n d : Nat} {e : Env} {u : Value} {t : TV} {hp : Nl t} (hd : look e d = .pin u t hp) (hk : PinOk B w0 u t) : PinRes B w0 n e ((d,.p t hp) :: e):=fun ρ h w us R hu=>by
 by_cases hn : d < n
 ·rw [toL_set e _ hn]
  obtain ⟨x,hx,hx2⟩:=hu.at_ d (look e d).den (toL_get? e hn)
  rw [hd] at hx2
  simp only [XV.den,Dn] at hx2
  subst hx2
  have:=hu.set d (PinOk.dn (h:=h) R hk)
  have e1 : us.set d x = us:=by
   apply List.ext_getElem?
   intro i
   rw [List.getElem?_set]
   split
   ·rename_i hi; subst hi; split
    ·exact hx.symm
    ·rename_i h2; rw [List.getElem?_eq_none (by omega)]
   ·rfl
  rw [e1] at this
  exact this
 ·rw [toL_over e _ hn]; exact hu
theorem pinE_ok {B : Nat} {w0 : World} {n : Nat} : ∀ {l : List Operand} {e : Env} {k : Env→Prop},pinE B w0 e l k→∃ e',(PinRes B w0 n e e'∧∀ x f vs,xev n e x = .fu f vs→xev n e' x = .fu f vs)∧k e'
 | [],e,k,hh=>⟨e,⟨.refl,fun _ _ _ h=>h⟩,hh⟩
 | .tmp d :: r,e,k,hh=>by
  simp only [pinE] at hh
  split at hh
  ·rename_i u t hp hd
   obtain ⟨e',⟨h1,h3⟩,h2⟩:=pinE_ok hh.2
   refine ⟨e',⟨fun ρ h w us R hu=>h1 ρ h w us R (PinRes.one hd hh.1 ρ h w us R hu),fun x f vs hx=>h3 x f vs ?_⟩,h2⟩
   cases x with
   | tmp t=>
    simp only [xev] at hx ⊢
    by_cases ht : d = t
    ·subst ht
     split at hx
     ·rw [hd] at hx; cases hx
     ·cases hx
    ·rw [look_ne e _ ht]; exact hx
   | _=>exact hx
  ·exact pinE_ok hh
 | .const _ :: r,e,k,hh=>pinE_ok (l:=r) hh
 | .global _ :: r,e,k,hh=>pinE_ok (l:=r) hh
 | .func _ :: r,e,k,hh=>pinE_ok (l:=r) hh
section
variable {P : Program} {B : Nat} {w0 : World} {T : Tab} {n : Nat} {gh : List Value} {Q : Exit→St→Prop} {ops : Array Oper} {rest : List Oper} {o : Oper} {e : Env} {h : List XLB} {gs : Frames}
abbrev KK:=Env→List XLB→Frames→Prop
abbrev XQ:=Exit→Env→List XLB→Frames→Prop
structure XT (P : Program) (B : Nat) (w0 : World) (n : Nat) (c : Code) (e : Env) (h : List XLB) (gs : Frames) (K : XQ) : Prop where
 ok : ∀ gh Q,(∀ ex e h gs,K ex e h gs→Q ex (xst n e h gs))→TW P B w0 gh c (xst n e h gs) Q
def frzK (e : Env) (h : List XLB) (gs : Frames) (j : Nat) (k : KK) : Prop:=rowAtK h j fun _ _ els hp=>turnK (fzX j (.p (.sl true els) hp.sl)) e h gs fun e' h' gs'=>setK h' j .none fun h''=>k e' h'' gs'
theorem frzK_ok {j : Nat} {k : KK} (hh : frzK e h gs j k) : ∃ e' h' gs',(∀ gh,SLe B w0 gh (xst n e h gs) (xst n e' h' gs'))∧k e' h' gs':=by
 obtain ⟨ty,sz,els,hp,h1,h2,hh⟩:=rowAtK_ok hh
 have h3:=setK_ok (k:=fun h''=>k _ h'' _) (turnK_ok hh)
 refine ⟨_,_,_,fun gh=>?_,h3⟩
 have:=SLe.freeze (B:=B) (w0:=w0) (gh:=gh) (σ:=xst n e h gs) j h1
 rw [hp.k] at this
 have e1 : xst n (mapE (fzX j (.p (.sl true els) hp.sl)) e) ((h.map (mapB (fzX j (.p (.sl true els) hp.sl)))).set j .none) (mapG (fzX j (.p (.sl true els) hp.sl)) gs) = ⟨fzL j (.sl true els) (xst n e h gs).s,((xst n e h gs).h.map (LB.fz j (.sl true els))).set j .none,fzL j (.sl true els) (xst n e h gs).g⟩:=by
  simp only [xst,toL_fz,denG_fz,XV.den]
  rw [List.map_set,hmap_fz]
  rfl
 rw [e1]
 exact this
def rowsIn : List XV→List Nat
 | []=>[]
 | v :: vs=>match v with
  | .row j=>j :: rowsIn vs
  | _=>rowsIn vs
def frzAll : List Nat→Env→List XLB→Frames→KK→Prop
 | [],e,h,gs,k=>k e h gs
 | j :: js,e,h,gs,k=>frzK e h gs j fun e h gs=>frzAll js e h gs k
theorem frzAll_ok : ∀ {js : List Nat} {e : Env} {h : List XLB} {gs : Frames} {k : KK},frzAll js e h gs k→∃ e' h' gs',(∀ gh,SLe B w0 gh (xst n e h gs) (xst n e' h' gs'))∧k e' h' gs'
 | [],e,h,gs,k,hh=>⟨e,h,gs,fun gh=>.refl _,hh⟩
 | j :: js,e,h,gs,k,hh=>by
  obtain ⟨e1,h1,g1,hs,hh⟩:=frzK_ok (n:=n) (B:=B) (w0:=w0) hh
  obtain ⟨e2,h2,g2,hs2,hh⟩:=frzAll_ok hh
  exact ⟨e2,h2,g2,fun gh=>(hs gh).trans (hs2 gh),hh⟩
def opSto (T : Tab) (n : Nat) (e : Env) (h : List XLB) (gs : Frames) (dst : Option Tmp) (t : TypeId) (x y : Operand) (k : KK) : Prop:=tyK T t fun ti=>cellsK (xev n e y) fun l=>isK l.length ti.n (match allOne l with
 | false=>False
 | true=>match xev n e x with
  | .ptr i off=>cellsAtK h i fun t0 cs=>match Nat.ble (off + l.length) cs.length with
   | true=>putsK cs off l fun cs'=>setK h i (.cells t0 cs') fun h'=>putK n e dst .any fun e'=>k e' h' gs
   | false=>False
  | .rp i kk sz j=>match hget h i with
   | .row e0 sz' els hp=>isK sz sz' (match Nat.ble (j + l.length) sz with
    | true=>nlK l fun ts ht=>IdxG els hp (kk : Int) fun kk' c hc=>c.length = sz∧setK h i (.row e0 sz' (els.set kk' (setsV c j ts)) (hp.set kk' (hc.setsV ht j))) fun h'=>putK n e dst .any fun e'=>k e' h' gs
    | false=>False)
   | .rowF e0 sz' pre hp cs post hq=>isK sz sz' (isK sz cs.length (match Nat.ble (j + l.length) sz with
    | true=>FocG pre hp post hq kk (putsK cs j l fun cs'=>setK h i (.rowF e0 sz' pre hp cs' post hq) fun h'=>putK n e dst .any fun e'=>k e' h' gs)
     (fun kk' c hc=>nlK l fun ts ht=>c.length = sz∧setK h i (.rowF e0 sz' (pre.set kk' (setsV c j ts)) (hp.set kk' (hc.setsV ht j)) cs post hq) fun h'=>putK n e dst .any fun e'=>k e' h' gs)
     (fun kk' c hc=>nlK l fun ts ht=>c.length = sz∧setK h i (.rowF e0 sz' pre hp cs (post.set kk' (setsV c j ts)) (hq.set kk' (hc.setsV ht j))) fun h'=>putK n e dst .any fun e'=>k e' h' gs)
    | false=>False))
   | _=>False
  | _=>False)
theorem opSto_ok (O : TabOk P T) {t : TypeId} {x y : Operand} (hg : o.guard = none) (ho : o.op = .store t x y) {k : KK} (hh : opSto T n e h gs o.dst t x y k) (hk : ∀ e h gs,k e h gs→TL P B w0 gh ops rest (xst n e h gs) Q) : TL P B w0 gh ops (o :: rest) (xst n e h gs) Q:=by
 obtain ⟨ti,ht,hh⟩:=tyK_ok O hh
 obtain ⟨l,hl,hh⟩:=cellsK_ok hh
 obtain ⟨hn,hh⟩:=isK_ok hh
 rw [xev_den] at hl
 have hlen : (XV.denL l).length = l.length:=by rw [denL_map]; simp
 split at hh
 ·exact hh.elim
 ·rename_i h1
  have h1:=allOne_ok h1
  have hx:=xev_den n e x
  split at hh
  ·rename_i i off hv
   rw [hv] at hx
   obtain ⟨t0,cs,h2,_,hh⟩:=cellsAtK_ok hh
   split at hh
   ·rename_i h3
    have h3:=Nat.le_of_ble_eq_true h3
    have hh:=setK_ok (k:=fun h'=>putK n e o.dst .any fun e'=>k e' h' gs) (putsK_ok (k:=fun cs'=>setK h i (.cells t0 cs') fun h'=>putK n e o.dst .any fun e'=>k e' h' gs) hh)
    obtain ⟨e',he,hh⟩:=putK_ok hh
    have hlc : (XV.denL cs).length = cs.length:=by rw [denL_map]; simp
    refine TL.store (σ:=xst n e h gs) hg ho hx.symm h2 ht hl (by omega) h1 (by omega) ?_
    have:=hk _ _ _ hh
    simp only [xst,he,List.map_set,XLB.den,denL_setsV] at this ⊢
    exact this
   ·exact hh.elim
  ·rename_i i kk sz j hv
   rw [hv] at hx
   split at hh
   ·rename_i e0 sz' els hp hgt
    have h2 : hf (h.map XLB.den) i = .row e0 sz' els:=by rw [← hget_den,hgt]; rfl
    obtain ⟨h4,hh⟩:=isK_ok hh
    subst h4
    split at hh
    ·rename_i h3
     have h3:=Nat.le_of_ble_eq_true h3
     obtain ⟨ts,hts,e3,hh⟩:=nlK_ok hh
     obtain ⟨kk',c,hc,hm,hcl,hh⟩:=IdxG.ok hh
     obtain rfl : kk = kk':=Int.ofNat.inj hm
     have hh:=setK_ok (k:=fun h'=>putK n e o.dst .any fun e'=>k e' h' gs) hh
     obtain ⟨e',he,hh⟩:=putK_ok hh
     rw [e3] at hl hlen
     rw [e3] at h1
     refine TL.store_row (σ:=xst n e h gs) hg ho hx.symm h2 rfl hc ht hl (by omega) h1 (by omega) ?_
     have:=hk _ _ _ hh
     simp only [xst,he,List.map_set,XLB.den] at this ⊢
     exact this
    ·exact hh.elim
   ·rename_i e0 sz' pre hp cs post hq hgt
    have h2 : hf (h.map XLB.den) i = .row e0 sz' (pre ++ XV.denL cs :: post):=by rw [← hget_den,hgt]; rfl
    obtain ⟨h4,hh7⟩:=isK_ok hh
    subst h4
    obtain ⟨h5,hh8⟩:=isK_ok hh7
    clear hh hh7
    have hlc : (XV.denL cs).length = cs.length:=by rw [denL_map]; simp
    split at hh8
    ·rename_i h3
     have h3:=Nat.le_of_ble_eq_true h3
     rcases hh8 with ⟨h6,hh⟩ | ⟨hh⟩ | ⟨q,h6,hh⟩
     ·subst h6
      have hh9:=hh
      have hh:=setK_ok (k:=fun h'=>putK n e o.dst .any fun e'=>k e' h' gs) (putsK_ok (k:=fun cs'=>setK h i (.rowF e0 _ pre hp cs' post hq) fun h'=>putK n e o.dst .any fun e'=>k e' h' gs) hh)
      obtain ⟨e',he,hh⟩:=putK_ok hh
      refine TL.store_row (σ:=xst n e h gs) hg ho hx.symm h2 rfl (c:=XV.denL cs) (by rw [List.getElem?_append_right (Nat.le_refl _)]; simp) ht hl (by omega) h1 (by omega) ?_
      have:=hk _ _ _ hh
      simp only [xst,he,List.map_set,XLB.den,denL_setsV] at this ⊢
      rw [show (pre ++ XV.denL cs :: post).set pre.length (setsV (XV.denL cs) j (XV.denL l)) = pre ++ setsV (XV.denL cs) j (XV.denL l) :: post by rw [List.set_append_right _ _ (Nat.le_refl _)]; simp]
      exact this
     ·obtain ⟨kk',c,hc,hm,hh⟩:=IdxG.ok hh
      obtain ⟨ts,hts,e3,hcl,hh⟩:=nlK_ok hh
      obtain rfl : kk = kk':=Int.ofNat.inj hm
      have hlt:=(List.getElem?_eq_some_iff.1 hc).1
      have hh:=setK_ok (k:=fun h'=>putK n e o.dst .any fun e'=>k e' h' gs) hh
      obtain ⟨e',he,hh⟩:=putK_ok hh
      rw [e3] at hl hlen
      rw [e3] at h1
      refine TL.store_row (σ:=xst n e h gs) hg ho hx.symm h2 rfl (c:=c) (by rw [List.getElem?_append_left hlt]; exact hc) ht hl (by omega) h1 (by omega) ?_
      have:=hk _ _ _ hh
      simp only [xst,he,List.map_set,XLB.den] at this ⊢
      rw [List.set_append_left _ _ hlt]
      exact this
     ·obtain ⟨kk',c,hc,hm,hh⟩:=IdxG.ok hh
      obtain ⟨ts,hts,e3,hcl,hh⟩:=nlK_ok hh
      obtain rfl : q = kk':=Int.ofNat.inj hm
      subst h6
      have hh:=setK_ok (k:=fun h'=>putK n e o.dst .any fun e'=>k e' h' gs) hh
      obtain ⟨e',he,hh⟩:=putK_ok hh
      rw [e3] at hl hlen
      rw [e3] at h1
      have e5 : pre.length + 1 + q - pre.length = q + 1:=by omega
      refine TL.store_row (σ:=xst n e h gs) hg ho hx.symm h2 rfl (c:=c) (by rw [List.getElem?_append_right (by omega),e5]; exact hc) ht hl (by omega) h1 (by omega) ?_
      have:=hk _ _ _ hh
      simp only [xst,he,List.map_set,XLB.den] at this ⊢
      rw [List.set_append_right _ _ (by omega),e5,List.set_cons_succ]
      exact this
    ·exact hh8.elim
   ·exact hh.elim
  ·exact hh.elim
inductive StoG (a b : Prop) : Prop
 | frz (h : a) : StoG a b
 | keep (h : b) : StoG a b
def opStore (T : Tab) (n : Nat) (e : Env) (h : List XLB) (gs : Frames) (dst : Option Tmp) (t : TypeId) (x y : Operand) (k : KK) : Prop:=match xev n e x with
 | .rp i _ _ _=>match hget h i with
  | .rowF _ _ _ _ _ _ _=>StoG (cellsK (xev n e y) fun l=>frzAll (rowsIn l) e h gs fun e h gs=>opSto T n e h gs dst t x y k) (opSto T n e h gs dst t x y k)
  | _=>cellsK (xev n e y) fun l=>frzAll (rowsIn l) e h gs fun e h gs=>opSto T n e h gs dst t x y k
 | _=>opSto T n e h gs dst t x y k
theorem opStore_ok (O : TabOk P T) {t : TypeId} {x y : Operand} (hg : o.guard = none) (ho : o.op = .store t x y) {k : KK} (hh : opStore T n e h gs o.dst t x y k) (hk : ∀ e h gs,k e h gs→TL P B w0 gh ops rest (xst n e h gs) Q) : TL P B w0 gh ops (o :: rest) (xst n e h gs) Q:=by
 unfold opStore at hh
 have frz : (cellsK (xev n e y) fun l=>frzAll (rowsIn l) e h gs fun e h gs=>opSto T n e h gs o.dst t x y k)→TL P B w0 gh ops (o :: rest) (xst n e h gs) Q:=fun hh=>by
  obtain ⟨l,hl,hh⟩:=cellsK_ok hh
  obtain ⟨e',h',gs',hs,hh⟩:=frzAll_ok (n:=n) (B:=B) (w0:=w0) hh
  exact TL.le (hs gh) (opSto_ok O hg ho hh hk)
 split at hh
 ·split at hh
  ·rcases hh with hh | hh
   ·exact frz hh
   ·exact opSto_ok O hg ho hh hk
  ·exact frz hh
 ·exact opSto_ok O hg ho hh hk
def ApOk (m : Nat) (ys : List (List TV)) : Prop:=∀ c ∈ ys,c.length = m∧c.all TV.one = true
theorem ApOk.lit {m : Nat} {ys : List (List TV)} (h : ys.all (fun c=>Nat.beq c.length m && c.all TV.one) = true) : ApOk m ys:=fun c hc=>by
 have:=List.all_eq_true.1 h c hc
 simp only [Bool.and_eq_true] at this
 exact ⟨Nat.eq_of_beq_eq_true this.1,this.2⟩
def elemsK (n : Nat) (e : Env) (h : List XLB) (x : Operand) (k : (ys : List (List TV))→NlLL ys→Prop) : Prop:=match xev n e x with
 | .p (.sl _ ys) hp=>k ys hp.sl
 | .p .nil_ _=>k [] .nil
 | .row j=>rowAtK h j fun _ _ ys hp=>k ys hp
 | _=>False
theorem elemsK_ok {x : Operand} {k : (ys : List (List TV))→NlLL ys→Prop} (hh : elemsK n e h x k) : ∃ ys hp,Elems (xst n e h gs) x ys∧k ys hp:=by
 unfold elemsK at hh
 have hx:=xev_den n e x
 split at hh
 ·rename_i b ys hp hv
  rw [hv] at hx
  exact ⟨_,_,.inl ⟨b,hx.symm⟩,hh⟩
 ·rename_i hp hv
  rw [hv] at hx
  exact ⟨_,_,.inr (.inr ⟨hx.symm,rfl⟩),hh⟩
 ·rename_i j hv
  rw [hv] at hx
  obtain ⟨e0,sz,ys,hp,h1,_,hh⟩:=rowAtK_ok hh
  exact ⟨_,_,.inr (.inl ⟨j,e0,sz,hx.symm,h1⟩),hh⟩
 ·exact hh.elim
inductive WinG (p : Nat) (k : Nat→Prop) : Prop
 | mk (h : ∀ q,q ≤ p→k q) : WinG p k
theorem nl_anyN : ∀ n : Nat,NlL (List.replicate n .any)
 | 0=>.nil
 | n + 1=>.cons ⟨fun _=>rfl,fun _ _=>rfl⟩ (nl_anyN n)
theorem NlLL.anyE (q sz : Nat) : NlLL (anyE q sz):=.replicate q (nl_anyN sz)
def opApp (T : Tab) (n : Nat) (e : Env) (h : List XLB) (gs : Frames) (dst : Option Tmp) (s x : Operand) (t : TypeId) (k : KK) : Prop:=tyK T t fun ti=>isK ti.k 3 (zK T ti.el fun te z=>isK z.cells.size te.n (posK te.n (posK te.by_ (elemsK n e h x fun ys hy=>ApOk te.n ys∧(match xev n e s with
 | .row i=>rowAtK h i fun e0 sz els hp=>isK e0 ti.el (isK sz te.n ((els.length + ys.length) * te.by_ ≤ 140737488355328∧turnK (kpX i) e h gs fun e' h' gs'=>setK h' i (.row e0 sz (els ++ ys) (hp.append hy)) fun h''=>putK n e' dst (.row i) fun e''=>k e'' h'' gs'))
 | .p .nil_ _=>ys.length * te.by_ ≤ 140737488355328∧lenK h fun hl=>addK h (some (.row ti.el te.n ys hy)) fun h'=>putK n e dst (.row hl) fun e'=>k e' h' gs
 | .win i p sz'=>rowAtK h i fun e0 sz els hp=>isK e0 ti.el (isK sz te.n (isK sz' te.n (posK ys.length ((els.length + ys.length) * te.by_ ≤ 140737488355328∧WinG p fun q=>turnK (kpX i) e h gs fun e' h' gs'=>setK h' i (.row e0 sz (anyE q sz ++ (els.drop p ++ ys)) ((NlLL.anyE q sz).append ((hp.drop p).append hy))) fun h''=>putK n e' dst (.win i q sz') fun e''=>k e'' h'' gs'))))
 | _=>False)))))
theorem opApp_ok (O : TabOk P T) {cl : Call} {s x : Operand} {t : TypeId} (hg : o.guard = none) (ho : o.op = .call cl) (hcl : cl = { callee:=.builtin .append,args:=#[s,x],argTypes:=#[t,t] }) {k : KK} (hh : opApp T n e h gs o.dst s x t k) (hk : ∀ e h gs,k e h gs→TL P B w0 gh ops rest (xst n e h gs) Q) : TL P B w0 gh ops (o :: rest) (xst n e h gs) Q:=by
 obtain ⟨ti,ht,hh⟩:=tyK_ok O hh
 obtain ⟨hk3,hh⟩:=isK_ok hh
 obtain ⟨te,z,he,hz,hh⟩:=zK_ok O hh
 obtain ⟨hzs,hh⟩:=isK_ok hh
 obtain ⟨hn,hh⟩:=posK_ok hh
 obtain ⟨hb,hh⟩:=posK_ok hh
 obtain ⟨ys,hy,hel,hap,hh⟩:=elemsK_ok (gs:=gs) hh
 have hA : ApTy P t ti te:=⟨ht,hk3,he,⟨z,hz,hzs⟩,hn,hb⟩
 have hs:=xev_den n e s
 split at hh
 ·rename_i i hv
  rw [hv] at hs
  obtain ⟨e0,sz,els,hp,h1,_,hh⟩:=rowAtK_ok hh
  obtain ⟨h2,hh⟩:=isK_ok hh
  obtain ⟨h3,hbd,hh⟩:=isK_ok hh
  subst h2; subst h3
  have hh:=setK_ok (k:=fun h''=>putK n _ o.dst (.row i) fun e''=>k e'' h'' _) (turnK_ok hh)
  obtain ⟨e',he',hh⟩:=putK_ok hh
  refine TL.append (σ:=xst n e h gs) hg ho hcl hA hs.symm h1 hel (fun c hc=>(hap c hc).1) (fun c hc=>(hap c hc).2) hbd ?_
  have:=hk _ _ _ hh
  simp only [xst,he',toL_kp,List.map_set,hmap_kp,denG_kp,XLB.den,XV.den] at this ⊢
  rw [hp.k,hy.k]
  exact this
 ·rename_i hp hv
  rw [hv] at hs
  obtain ⟨hbd,hh⟩:=hh
  have hh:=lenK_ok hh
  obtain ⟨h',hh',hh⟩:=addK_ok hh
  obtain ⟨e',he',hh⟩:=putK_ok hh
  refine TL.append_nil (σ:=xst n e h gs) hg ho hcl hA hs.symm hel (fun c hc=>(hap c hc).1) (fun c hc=>(hap c hc).2) hbd ?_
  have:=hk _ _ _ hh
  simp only [xst,he',hh',Option.map_some,XLB.den,XV.den,List.length_map] at this ⊢
  exact this
 ·rename_i i p sz' hv
  rw [hv] at hs
  obtain ⟨e0,sz,els,hp,h1,_,hh⟩:=rowAtK_ok hh
  obtain ⟨h2,hh⟩:=isK_ok hh
  obtain ⟨h3,hh⟩:=isK_ok hh
  obtain ⟨h4,hh⟩:=isK_ok hh
  obtain ⟨h0,hbd,hw⟩:=posK_ok hh
  obtain ⟨hw⟩:=hw
  subst h2; subst h3; subst h4
  refine TL.appWin (σ:=xst n e h gs) hg ho hcl hA hs.symm h1 hel h0 (fun c hc=>(hap c hc).1) (fun c hc=>(hap c hc).2) hbd fun q hqp=>?_
  have hh:=setK_ok (k:=fun h''=>putK n _ o.dst (.win i q te.n) fun e''=>k e'' h'' _) (turnK_ok (hw q hqp))
  obtain ⟨e',he',hh⟩:=putK_ok hh
  have:=hk _ _ _ hh
  simp only [xst,he',toL_kp,List.map_set,hmap_kp,denG_kp,XLB.den,XV.den] at this ⊢
  rw [((NlLL.anyE q te.n).append ((hp.drop p).append hy)).k]
  exact this
 ·exact hh.elim
def opCopy (T : Tab) (n : Nat) (e : Env) (h : List XLB) (gs : Frames) (dst : Option Tmp) (s x : Operand) (t : TypeId) (k : KK) : Prop:=tyK T t fun ti=>isK ti.k 3 (zK T ti.el fun te z=>isK z.cells.size te.n (isK te.n 1 (posK te.by_ (elemsK n e h x fun ys hy=>ApOk te.n ys∧(match xev n e s with
 | .row i=>rowAtK h i fun e0 sz els hp=>isK e0 ti.el (isK sz te.n (ys.length ≤ els.length∧setK h i (.row e0 sz (ys ++ els.drop ys.length) (hy.append (hp.drop _))) fun h'=>putK n e dst (.p (.v (.int .i64 ys.length)) (nlv _)) fun e'=>k e' h' gs))
 | _=>False)))))
theorem opCopy_ok (O : TabOk P T) {cl : Call} {s x : Operand} {t tx : TypeId} (hg : o.guard = none) (ho : o.op = .call cl) (hcl : cl = { callee:=.builtin .copy,args:=#[s,x],argTypes:=#[t,tx] }) {k : KK} (hh : opCopy T n e h gs o.dst s x t k) (hk : ∀ e h gs,k e h gs→TL P B w0 gh ops rest (xst n e h gs) Q) : TL P B w0 gh ops (o :: rest) (xst n e h gs) Q:=by
 obtain ⟨ti,ht,hh⟩:=tyK_ok O hh
 obtain ⟨hk3,hh⟩:=isK_ok hh
 obtain ⟨te,z,he,hz,hh⟩:=zK_ok O hh
 obtain ⟨hzs,hh⟩:=isK_ok hh
 obtain ⟨hn,hh⟩:=isK_ok hh
 obtain ⟨hb,hh⟩:=posK_ok hh
 obtain ⟨ys,hy,hel,hap,hh⟩:=elemsK_ok (gs:=gs) hh
 have hA : ApTy P t ti te:=⟨ht,hk3,he,⟨z,hz,hzs⟩,by omega,hb⟩
 have hs:=xev_den n e s
 split at hh
 ·rename_i i hv
  rw [hv] at hs
  obtain ⟨e0,sz,els,hp,h1,_,hh⟩:=rowAtK_ok hh
  obtain ⟨h2,hh⟩:=isK_ok hh
  obtain ⟨h3,hle,hh⟩:=isK_ok hh
  subst h2; subst h3
  have hh:=setK_ok (k:=fun h'=>putK n e o.dst (.p (.v (.int .i64 ys.length)) (nlv _)) fun e'=>k e' h' gs) hh
  obtain ⟨e',he',hh⟩:=putK_ok hh
  refine TL.copy (σ:=xst n e h gs) hg ho hcl hA hn hs.symm h1 hel (fun c hc=>(hap c hc).1) (fun c hc=>(hap c hc).2) hle ?_
  have:=hk _ _ _ hh
  simp only [xst,he',List.map_set,XLB.den,XV.den] at this ⊢
  exact this
 ·exact hh.elim
def resV (T : Tab) (n : Nat) (e : Env) (h : List XLB) (r : ResultVar) (k : XV→Prop) : Prop:=match r with
 | .tmp t=>fv (xev n e (.tmp t)) k
 | .cell a t=>tyK T t fun ti=>match xev n e (.tmp a) with
  | .ptr i off=>cellsAtK h i fun _ cs=>dropK off cs fun r=>packK ti.ag ti.n r k
  | _=>False
def resL (T : Tab) (n : Nat) (e : Env) (h : List XLB) : List ResultVar→(List XV→Prop)→Prop
 | [],k=>k []
 | r :: rs,k=>resV T n e h r fun v=>resL T n e h rs fun vs=>k (v :: vs)
theorem resL_ok (O : TabOk P T) {g : List TV} : ∀ {rs : List ResultVar} {k : List XV→Prop},resL T n e h rs k→∃ vs,ResL P ⟨toL n e,h.map XLB.den,g⟩ rs (XV.denL vs)∧k vs
 | [],k,hh=>⟨[],rfl,hh⟩
 | r :: rs,k,hh=>by
  simp only [resL] at hh
  have key : ∀ {r : ResultVar} {k : XV→Prop},resV T n e h r k→∃ v,ResV P ⟨toL n e,h.map XLB.den,g⟩ r v.den∧k v:=by
   intro r k hh
   unfold resV at hh
   split at hh
   ·rename_i t
    exact ⟨_,(xev_den n e (.tmp t)).symm,fv_ok hh⟩
   ·rename_i a t
    obtain ⟨ti,ht,hh⟩:=tyK_ok O hh
    have hx:=xev_den n e (.tmp a)
    split at hh
    ·rename_i i off hv
     rw [hv] at hx
     obtain ⟨t0,cs,h1,_,hh⟩:=cellsAtK_ok hh
     obtain ⟨v,hp,hk⟩:=packK_ok (dropK_ok (k:=fun r=>packK ti.ag ti.n r k) hh)
     exact ⟨v,⟨i,off,t0,_,ti,hx.symm,h1,ht,by rw [← hp,denL_map,denL_map,List.map_drop]⟩,hk⟩
    ·exact hh.elim
  obtain ⟨v,h1,hh⟩:=key hh
  obtain ⟨vs,h2,hh⟩:=resL_ok O hh
  exact ⟨v :: vs,⟨v.den,_,rfl,h1,h2⟩,hh⟩
def resX (T : Tab) (n : Nat) (e : Env) (h : List XLB) (rs : List ResultVar) (k : XV→Prop) : Prop:=resL T n e h rs fun vs=>match vs with
 | [v]=>k v
 | vs=>k (.tu vs)
theorem resX_ok (O : TabOk P T) {g : List TV} {fn : Func} {k : XV→Prop} (hh : resX T n e h fn.results.toList k) : ∃ v,ResT P fn ⟨toL n e,h.map XLB.den,g⟩ v.den∧k v:=by
 obtain ⟨vs,h1,hh⟩:=resL_ok O (g:=g) hh
 split at hh
 ·rename_i v
  exact ⟨v,⟨_,h1,rfl⟩,hh⟩
 ·rename_i hne
  refine ⟨.tu vs,⟨_,h1,?_⟩,hh⟩
  cases vs with
  | nil=>rfl
  | cons v vs=>
   cases vs with
   | nil=>exact (hne v rfl).elim
   | cons v2 vs=>rfl
def envA : List XV→Nat→Env
 | [],_=>[]
 | v :: vs,i=>(i,v) :: envA vs (i + 1)
theorem look_envA : ∀ (vs : List XV) (i d : Nat),look (envA vs i) d = if d < i then .any else (vs[d - i]?).getD .any
 | [],i,d=>by simp [envA,look]
 | v :: vs,i,d=>by
  simp only [envA]
  by_cases hd : i = d
  ·subst hd; simp [look_same]
  ·rw [look_ne _ _ hd,look_envA vs (i + 1) d]
   by_cases h1 : d < i
   ·simp [h1,show d < i + 1 by omega]
   ·have : d - i = (d - (i + 1)) + 1:=by omega
    simp [h1,show ¬ d < i + 1 by omega,this]
theorem toL_envA {m : Nat} {vs : List XV} (hle : vs.length ≤ m) : toL m (envA vs 0) = XV.denL vs ++ List.replicate (m - (XV.denL vs).length) .any:=by
 have hl : (XV.denL vs).length = vs.length:=by rw [denL_map]; simp
 apply List.ext_getElem?
 intro i
 simp only [toL,List.getElem?_map]
 by_cases hi : i < m
 ·simp only [List.getElem?_range hi,Option.map_some,look_envA,Nat.not_lt_zero,if_false,Nat.sub_zero]
  by_cases h2 : i < vs.length
  ·rw [List.getElem?_append_left (by omega),denL_map,List.getElem?_map,List.getElem?_eq_getElem h2]
   rfl
  ·rw [List.getElem?_append_right (by omega),List.getElem?_eq_none (Nat.le_of_not_lt h2),hl,List.getElem?_replicate]
   simp [show i - vs.length < m - vs.length by omega,XV.den]
 ·rw [List.getElem?_eq_none (by simp; omega),List.getElem?_eq_none (by simp [hl]; omega)]
  rfl
structure WCall (P : Program) (B : Nat) (w0 : World) (f : FuncId) (vs : List XV) (n : Nat) (e : Env) (h : List XLB) (gs : Frames) (dst : Option Tmp) (k : KK) : Prop where
 ok : ∀ {gh : List Value} {Q : Exit→St→Prop} {ops : Array Oper} {rest : List Oper} {o : Oper} {cl : Call} {fop : Operand} {cvs : List XV},o.guard = none→o.op = .call cl→cl.callee = .value fop→tev (toL n e) fop = .fn (.func f) (XV.denL cvs)→vs = cl.args.toList.map (xev n e) ++ cvs→o.dst = dst →
  (∀ e h gs,k e h gs→TL P B w0 gh ops rest (xst n e h gs) Q)→TL P B w0 gh ops (o :: rest) (xst n e h gs) Q
inductive InlG (P : Program) (B : Nat) (w0 : World) (T : Tab) (f : FuncId) (vs : List XV) (n : Nat) (e : Env) (h : List XLB) (gs : Frames) (dst : Option Tmp) (k : KK) : Prop
 | mk {fn : Func} {c : Code} (hE : entB P f = true) (hfn : P.funcs[f]? = some fn) (hb : fn.body = some c) (hle : vs.length ≤ fn.ntmps)
   (hx : XT P B w0 fn.ntmps c (envA vs 0) h ((n,e) :: gs) fun ex e' h' gs'=>(ex = .normal∨ex = .ret)∧resX T fn.ntmps e' h' fn.results.toList fun v=>match gs' with
    | f0 :: gs0=>isK f0.1 n (putK n f0.2 dst v fun e0=>k e0 h' gs0)
    | []=>False) : InlG P B w0 T f vs n e h gs dst k
 | wr (hw : WCall P B w0 f vs n e h gs dst k) : InlG P B w0 T f vs n e h gs dst k
theorem inlG_ok (O : TabOk P T) {cl : Call} {fop : Operand} {f : FuncId} {cvs : List XV} (hg : o.guard = none) (ho : o.op = .call cl) (hcl : cl.callee = .value fop) (hf : tev (toL n e) fop = .fn (.func f) (XV.denL cvs)) {k : KK}
  (hh : InlG P B w0 T f (cl.args.toList.map (xev n e) ++ cvs) n e h gs o.dst k) (hk : ∀ e h gs,k e h gs→TL P B w0 gh ops rest (xst n e h gs) Q) : TL P B w0 gh ops (o :: rest) (xst n e h gs) Q:=by
 rcases hh with ⟨hE,hfn,hb,hle,hx⟩ | ⟨hw⟩
 case wr=>exact hw.ok hg ho hcl hf rfl rfl hk
 refine TL.inline (σ:=xst n e h gs) hg ho hcl hf hE hfn hb fun gh'=>?_
 have e1 : cl.args.toList.map (tev (xst n e h gs).s) ++ XV.denL cvs = XV.denL (cl.args.toList.map (xev n e) ++ cvs):=by
  rw [denL_map (_ ++ _),List.map_append,← denL_map,← denL_map,evL_den]
  rfl
 rw [e1,← toL_envA hle]
 refine hx.ok gh' _ fun ex e' h' gs' ⟨he,hr⟩=>?_
 obtain ⟨v,hv,hr⟩:=resX_ok O (g:=denG gs') hr
 refine ⟨he,v.den,hv,?_⟩
 cases gs' with
 | nil=>exact hr.elim
 | cons f0 gs0=>
  obtain ⟨h0,hr⟩:=isK_ok hr
  obtain ⟨e0,he0,hr⟩:=putK_ok hr
  have:=hk _ _ _ hr
  have hl : (toL n e).length = (toL f0.1 f0.2).length:=by simp only [toL_len,h0]
  simp only [xst,denG,he0] at this ⊢
  rw [hl,List.take_left,List.drop_left,h0]
  exact this
inductive CallI (P : Program) (B : Nat) (w0 : World) (T : Tab) (f : FuncId) (ts : List TV) (vs : List XV) (n : Nat) (e : Env) (h : List XLB) (gs : Frames) (dst : Option Tmp) (k : KK) (zz : Bool) : Prop
 | ct (hc : lenK h fun hl=>CallG P f ts hl (fun v new=>putK n e dst v fun e'=>addK h new fun h'=>k e' h' gs) zz) : CallI P B w0 T f ts vs n e h gs dst k zz
 | inl (hi : InlG P B w0 T f vs n e h gs dst k) : CallI P B w0 T f ts vs n e h gs dst k zz
 | wr (hw : WCall P B w0 f vs n e h gs dst k) : CallI P B w0 T f ts vs n e h gs dst k zz
inductive UpdG (P : Program) (t : TypeId) (X : Ext) (x y : TV) (k : Ext→Prop) : Prop
 | mk {kt et : TypeId} {n : Nat} {D d : DataW Unit} {key val : Value} {kl : Lit} {ps : List MemPlace} (hX : X = mapX P kt et n D) (hx : ∀ (C : Cx) (v : Value),Dn C x v→v = key) (hy : y = .v val) (K : Maps.Keyed P kt) (ht : P.underlying t = some (.map kt et))
   (hn : n < maxLen) (hkey : keyOf P kt key = some kl) (hval : plainElem (H:=Unit) P et val = some (d,ps)) (hk : k (mapX P kt et (n + 1) (D.put kl d))) : UpdG P t X x y k
def X1 (P : Program) (B : Nat) (w0 : World) (T : Tab) (n : Nat) (e : Env) (h : List XLB) (gs : Frames) (dst : Option Tmp) (op : Op) (k : KK) : Prop:=match op with
 | .store t x y=>opStore T n e h gs dst t x y k
 | .call cl=>match cl with
  | { callee:=.builtin .append,args:=a,argTypes:=ts }=>match a.toList,ts.toList with
   | [s,x],[t,t']=>isK t t' (opApp T n e h gs dst s x t k)
   | _,_=>False
  | { callee:=.builtin .copy,args:=a,argTypes:=ts }=>match a.toList,ts.toList with
   | [s,x],[t,_]=>opCopy T n e h gs dst s x t k
   | _,_=>False
  | { callee:=.value fop,args:=a,argTypes:=ts }=>match xev n e fop with
   | .fu (.func f) vs=>pinE B w0 e a.toList fun e'=>match argPL (h.map XLB.den) (a.toList.map (fun x=>(xev n e' x).den) ++ XV.denL vs) with
    | some ts=>CallI P B w0 T f ts (a.toList.map (xev n e) ++ vs) n e h gs dst k ((a.toList.map (fun x=>(xev n e' x).den) ++ XV.denL vs).any isZ)
    | none=>InlG P B w0 T f (a.toList.map (xev n e) ++ vs) n e h gs dst k
   | .p (.fn (.func f) cs) _=>match argPL (h.map XLB.den) (a.toList.map (fun x=>(xev n e x).den) ++ cs) with
    | some ts=>lenK h fun hl=>CallG P f ts hl (fun v new=>putK n e dst v fun e'=>addK h new fun h'=>k e' h' gs) ((a.toList.map (fun x=>(xev n e x).den) ++ cs).any isZ)
    | none=>False
   | _=>False
  | cl=>pinE B w0 e cl.args.toList fun e'=>opCall P T n h e' cl fun v new=>putK n e dst v fun e'=>addK h new fun h'=>k e' h' gs
 | .slice t x lo hi none=>match xev n e x with
  | .row j=>frzK e h gs j fun e h gs=>opSlice T n e t x lo hi fun v new=>putK n e dst v fun e'=>addK h new fun h'=>k e' h' gs
  | .win i p sz=>opSliceW T n h e t i p sz lo hi fun v new=>putK n e dst v fun e'=>addK h new fun h'=>k e' h' gs
  | _=>pinE B w0 e [x] fun e'=>opSlice T n e' t x lo hi fun v new=>putK n e dst v fun e'=>addK h new fun h'=>k e' h' gs
 | .buildSlice t len parts=>evK n e (parts.toList.map (·.2)) fun vs=>frzAll (vs.flatMap fun v=>match v with
   | .ag us=>rowsIn us
   | v=>rowsIn [v]) e h gs fun e h gs=>opBuildSlice T n h e t len parts fun v new=>putK n e dst v fun e'=>addK h new fun h'=>k e' h' gs
 | .mapUpdate t m x y=>match xev n e m with
  | .row i=>match hget h i with
   | .ext X=>UpdG P t X (xev n e x).den (xev n e y).den fun X'=>setK h i (.ext X') fun h'=>putK n e dst .any fun e'=>k e' h' gs
   | _=>False
  | _=>False
 | op=>pinE B w0 e (opPins op) fun e'=>XS P T n h e' op fun v new=>putK n e dst v fun e'=>addK h new fun h'=>k e' h' gs
theorem TL.stepR {tv : TV} {new : Option LB} {s' : List TV} {σ : St} (hg : o.guard = none) (hres : ∀ ρ a w,RelS B w0 gh ρ σ a w→DnL (cxOf B ρ (hf σ.h) w) s' a.tmps.toList) (hs : TStep P B w0 σ.h s' o tv new) (h : TL P B w0 gh ops rest (σ.step o.dst tv new) Q) : TL P B w0 gh ops (o :: rest) σ Q:=fun ρ a w hr=>by
 refine wpList_plain hg fun K hK=>hs ρ (hf σ.h) w a (fun i _ _=>.inr rfl) (fun _=>hf_ge (Nat.le_refl _)) hr.rel (fun x _=>tev_dn (hres ρ a w hr) x) K _ fun u w' ρ' R' KK hb hd=>?_
 have e : hf (σ.step o.dst tv new).h = addf (hf σ.h) σ.h.length new:=by
  unfold St.step addf
  cases new with
  | none=>rfl
  | some b=>exact hf_app _ _
 refine hK _ _ (h ρ' _ _ ⟨?_,?_,?_,by rw [put_defers]; exact hr.defers⟩)
 ·rw [e]; exact put_dn (DnL.keep KK _ _ hr.slots) hd
 ·rw [e]; exact DnL.keep KK _ _ hr.ghost
 ·rw [e]; exact R'
theorem step_okR {e1 : Env} (hp : PinRes B w0 n e e1) (hg : o.guard = none) {k : KK} {kk : XV→Option XLB→Prop} (hkk : kk = fun v new=>putK n e o.dst v fun e'=>addK h new fun h'=>k e' h' gs) (hh : ∃ v new,TStep P B w0 (h.map XLB.den) (toL n e1) o v.den (Option.map XLB.den new)∧kk v new)
  (hk : ∀ e h gs,k e h gs→TL P B w0 gh ops rest (xst n e h gs) Q) : TL P B w0 gh ops (o :: rest) (xst n e h gs) Q:=by
 obtain ⟨v,new,hs,hh⟩:=hh
 subst hkk
 obtain ⟨e',he,hh⟩:=putK_ok hh
 obtain ⟨h',hh',hh⟩:=addK_ok hh
 refine TL.stepR (σ:=xst n e h gs) hg (fun ρ a w hr=>hp ρ _ w _ hr.rel hr.slots) hs ?_
 have:=hk _ _ _ hh
 simp only [St.step,xst,he,hh'] at this ⊢
 exact this
theorem step_ok (hg : o.guard = none) {k : KK} {kk : XV→Option XLB→Prop} (hkk : kk = fun v new=>putK n e o.dst v fun e'=>addK h new fun h'=>k e' h' gs) (hh : ∃ v new,TStep P B w0 (h.map XLB.den) (toL n e) o v.den (Option.map XLB.den new)∧kk v new)
  (hk : ∀ e h gs,k e h gs→TL P B w0 gh ops rest (xst n e h gs) Q) : TL P B w0 gh ops (o :: rest) (xst n e h gs) Q:=by
 obtain ⟨v,new,hs,hh⟩:=hh
 subst hkk
 obtain ⟨e',he,hh⟩:=putK_ok hh
 obtain ⟨h',hh',hh⟩:=addK_ok hh
 refine TL.step (σ:=xst n e h gs) hg hs ?_
 have:=hk _ _ _ hh
 simp only [St.step,xst,he,hh'] at this ⊢
 exact this
theorem X1_ok (O : TabOk P T) (hg : o.guard = none) {k : KK} (hh : X1 P B w0 T n e h gs o.dst o.op k) (hk : ∀ e h gs,k e h gs→TL P B w0 gh ops rest (xst n e h gs) Q) : TL P B w0 gh ops (o :: rest) (xst n e h gs) Q:=by
 unfold X1 at hh
 split at hh
 case h_1 t x y ho=>exact opStore_ok O hg ho hh hk
 case h_2 cl ho=>
  split at hh
  ·rename_i a ts
   split at hh
   ·rename_i s x t t' ha hts
    obtain rfl:=arr2 ha
    obtain rfl:=arr2 hts
    obtain ⟨h1,hh2⟩:=isK_ok hh
    subst h1
    exact opApp_ok O hg ho rfl hh2 hk
   ·exact hh.elim
  ·rename_i a ts
   split at hh
   ·rename_i s x t t' ha hts
    obtain rfl:=arr2 ha
    obtain rfl:=arr2 hts
    exact opCopy_ok O hg ho rfl hh hk
   ·exact hh.elim
  ·rename_i fop a ts
   have hf:=xev_den n e fop
   have he : ∀ e',a.toList.map (fun x=>(xev n e' x).den) = a.toList.map (tev (toL n e')):=fun e'=>List.map_congr_left fun x _=>xev_den n e' x
   split at hh
   ·rename_i f vs hv
    rw [hv] at hf
    obtain ⟨e1,hp,hh⟩:=pinE_ok (n:=n) hh
    rw [he] at hh
    split at hh
    ·rename_i ts hts
     cases hh with
     | ct hc=>
      have hf1:=(xev_den n e1 fop).symm
      rw [hp.2 _ _ _ hv] at hf1
      exact step_okR hp.1 hg rfl (callG_ok ho rfl hf1 hts rfl (lenK_ok hc)) hk
     | inl hi=>exact inlG_ok O hg ho rfl hf.symm hi hk
     | wr hw=>exact hw.ok hg ho rfl hf.symm rfl rfl hk
    ·exact inlG_ok O hg ho rfl hf.symm hh hk
   ·rename_i f cs hp hv
    rw [hv] at hf
    rw [he] at hh
    split at hh
    ·rename_i ts hts
     exact step_ok hg rfl (callG_ok ho rfl hf.symm hts rfl (lenK_ok hh)) hk
    ·exact hh.elim
   ·exact hh.elim
  ·obtain ⟨e1,hp,hh⟩:=pinE_ok (n:=n) hh
   exact step_okR hp.1 hg rfl (opCall_ok O ho hh) hk
 case h_3 t x lo hi ho=>
  split at hh
  ·obtain ⟨e',h',gs',hs,hh⟩:=frzK_ok (n:=n) (B:=B) (w0:=w0) hh
   exact TL.le (hs gh) (step_ok hg rfl (opSlice_ok O ho hh) hk)
  ·rename_i i p sz hv
   exact step_ok hg rfl (opSliceW_ok O ho hv hh) hk
  ·obtain ⟨e1,hp,hh⟩:=pinE_ok (n:=n) hh
   exact step_okR hp.1 hg rfl (opSlice_ok O ho hh) hk
 case h_4 t len parts ho=>
  have hh:=evK_ok (k:=fun vs=>frzAll (vs.flatMap _) e h gs _) hh
  obtain ⟨e',h',gs',hs,hh⟩:=frzAll_ok (n:=n) (B:=B) (w0:=w0) hh
  exact TL.le (hs gh) (step_ok hg rfl (opBuildSlice_ok O ho hh) hk)
 case h_5 t m x y ho=>
  have hm:=xev_den n e m
  split at hh
  ·rename_i i hv
   rw [hv] at hm
   split at hh
   ·rename_i X hi
    have h1 : hf (h.map XLB.den) i = .ext X:=by rw [← hget_den,hi]; rfl
    obtain ⟨hX,hx,hy,K,ht,hn,hkey,hval,hh⟩:=hh
    subst hX
    rw [xev_den] at hx hy
    have hh:=setK_ok (k:=fun h'=>putK n e o.dst .any fun e'=>k e' h' gs) hh
    obtain ⟨e',he',hh⟩:=putK_ok hh
    refine TL.mapUpdate (σ:=xst n e h gs) hg ho hm.symm h1 hx hy K ht hn hkey hval ?_
    have:=hk _ _ _ hh
    simp only [xst,he',List.map_set,XLB.den,XV.den] at this ⊢
    exact this
   ·exact hh.elim
  ·exact hh.elim
 case h_6=>
  obtain ⟨e1,hp,hh⟩:=pinE_ok (n:=n) hh
  exact step_okR hp.1 hg rfl (XS_ok O hh) hk
def XL (P : Program) (B : Nat) (w0 : World) (T : Tab) (n : Nat) (L : List Oper) : List Oper→Env→List XLB→Frames→KK→Prop
 | [],e,h,gs,k=>k e h gs
 | o :: r,e,h,gs,k=>guardK n L e o.guard (X1 P B w0 T n e h gs o.dst o.op fun e h gs=>XL P B w0 T n L r e h gs k) (putK n e o.dst (.p (.v undef) (nlv _)) fun e'=>XL P B w0 T n L r e' h gs k)
theorem XL_ok (O : TabOk P T) (ops : Array Oper) (gh : List Value) (Q : Exit→St→Prop) : ∀ {l : List Oper} {e : Env} {h : List XLB} {gs : Frames} {k : KK},XL P B w0 T n ops.toList l e h gs k→(∀ e h gs,k e h gs→Q .normal (xst n e h gs))→TL P B w0 gh ops l (xst n e h gs) Q
 | [],e,h,gs,k,hh,hk=>.nil (hk _ _ _ hh)
 | o :: r,e,h,gs,k,hh,hk=>by
  rcases guardK_ok hh with ⟨hg,hh⟩ | ⟨j,b,og,d,hg,hog,hd,hlt,hh⟩
  ·exact X1_ok O hg hh fun e h gs h1=>XL_ok O ops gh Q h1 hk
  ·have hog' : ops[j]? = some og:=by rw [← Array.getElem?_toList]; exact hog
   have hlt' : d < (xst n e h gs).s.length:=by simp only [xst,toL_len]; exact hlt
   rcases hh with ⟨hb,hh⟩ | ⟨x,hx,hn,hh⟩
   ·exact TL.want hg hog' hd hlt' hb (X1_ok (o:={ o with guard:=none }) O rfl hh fun e h gs h1=>XL_ok O ops gh Q h1 hk)
   ·obtain ⟨e',he,hh⟩:=putK_ok hh
    refine TL.skip_g (σ:=xst n e h gs) hg hog' hd hlt' hx hn ?_
    have:=XL_ok O ops gh Q hh hk
    simp only [St.put,xst,he,XV.den] at this ⊢
    exact this
def XP (P : Program) (T : Tab) (n : Nat) (L : List Oper) : List Oper→Env→List XLB→(Env→List XLB→Prop)→Prop
 | [],e,h,k=>k e h
 | o :: r,e,h,k=>guardK n L e o.guard (XS P T n h e o.op fun v new=>putK n e o.dst v fun e'=>addK h new fun h'=>XP P T n L r e' h' k) (putK n e o.dst (.p (.v undef) (nlv _)) fun e'=>XP P T n L r e' h k)
theorem XP_ok (O : TabOk P T) {L : List Oper} {K : List TV→List LB→Prop} : ∀ {l : List Oper} {e : Env} {h : List XLB} {k : Env→List XLB→Prop},XP P T n L l e h k→(∀ e h,k e h→K (toL n e) (h.map XLB.den))→TPar P B w0 L l (toL n e) (h.map XLB.den) K
 | [],e,h,k,hh,hk=>hk _ _ hh
 | o :: r,e,h,k,hh,hk=>by
  have key : ∀ {e : Env} {h : List XLB} {v : XV} {new : Option XLB},(putK n e o.dst v fun e'=>addK h new fun h'=>XP P T n L r e' h' k)→TPar P B w0 L r (putO (toL n e) o.dst v.den) (addO (h.map XLB.den) (new.map XLB.den)) K:=fun hh=>by
   obtain ⟨e',he,hh⟩:=putK_ok hh
   obtain ⟨h',hh',hh⟩:=addK_ok hh
   have:=XP_ok O hh hk
   rw [he,hh'] at this
   exact this
  rcases guardK_ok hh with ⟨hg,hh⟩ | ⟨j,b,og,d,hg,hog,hd,hlt,hh⟩
  ·obtain ⟨v,new,hs,hh⟩:=XS_ok (B:=B) (w0:=w0) O hh
   exact .run hg hs (key hh)
  ·have hlt' : d < (toL n e).length:=by rw [toL_len]; exact hlt
   rcases hh with ⟨hb,hh⟩ | ⟨x,hx,hn,hh⟩
   ·obtain ⟨v,new,hs,hh⟩:=XS_ok (B:=B) (w0:=w0) O hh
    exact .run_g hg hog hd hlt' hb hs (key hh)
   ·obtain ⟨e',he,hh⟩:=putK_ok hh
    have:=XP_ok O hh hk
    rw [he] at this
    exact .skip_g hg hog hd hlt' hx hn this
def regB (l : List Oper) (n : Nat) : Bool:=backB l.toArray && decide (n ≤ l.length) && parB l (l.take n) ixI && (decide (n = l.length) || (decide (n < l.length) && Region.sinkB .any l.toArray n && Region.chainB .any l.toArray n && Region.seqB .any l.toArray (l.length - n) n (headOf n l.length)))
def anyAll : List (Nat × Nat × Nat)→List XLB→(List XLB→Prop)→Prop
 | [],h,k=>k h
 | x :: fs,h,k=>cellsAtK h x.1 fun t cs=>match Nat.ble (x.2.1 + x.2.2) cs.length with
  | true=>setK h x.1 (.cells t (setsV cs x.2.1 (List.replicate x.2.2 .any))) fun h=>anyAll fs h k
  | false=>False
theorem anyAll_ok : ∀ {fs : List (Nat × Nat × Nat)} {h : List XLB} {k : List XLB→Prop},anyAll fs h k→∃ h',k h'∧SLe B w0 gh (xst n e h gs) (xst n e h' gs)
 | [],h,k,hh=>⟨h,hh,.refl _⟩
 | x :: fs,h,k,hh=>by
  obtain ⟨t,cs,h2,_,hh⟩:=cellsAtK_ok hh
  split at hh
  ·rename_i h3
   have h3:=Nat.le_of_ble_eq_true h3
   have hh:=setK_ok (k:=fun h=>anyAll fs h k) hh
   have hlc : (XV.denL cs).length = cs.length:=by rw [denL_map]; simp
   obtain ⟨h',e1,e2⟩:=anyAll_ok hh
   refine ⟨h',e1,SLe.trans (.anyc (σ:=xst n e h gs) x.1 x.2.1 x.2.2 h2 (by omega)) ?_⟩
   have hr : XV.denL (List.replicate x.2.2 XV.any) = List.replicate x.2.2 TV.any:=by rw [denL_map,List.map_replicate]; rfl
   simp only [xst,List.map_set,XLB.den,denL_setsV,hr] at e2 ⊢
   exact e2
  ·exact hh.elim
abbrev PdX:=List (Nat × TypeId × List XV)
def pdR (ds : List StD) (pd : PdX) : Prop:=ds.map (fun d=>(d.i,d.lb)) = pd.map (fun x=>(x.1,LB.cells x.2.1 (XV.denL x.2.2)))
def setX (h : List XLB) : PdX→List XLB
 | []=>h
 | x :: pd=>setX (h.set x.1 (.cells x.2.1 x.2.2)) pd
theorem setX_ok : ∀ {ds : List StD} {pd : PdX} {h : List XLB},pdR ds pd→setLB (h.map XLB.den) ds = (setX h pd).map XLB.den
 | [],[],h,_=>rfl
 | [],x :: pd,h,hr=>by simp [pdR] at hr
 | d :: ds,[],h,hr=>by simp [pdR] at hr
 | d :: ds,x :: pd,h,hr=>by
  simp only [pdR,List.map_cons,List.cons.injEq,Prod.mk.injEq] at hr
  obtain ⟨⟨h1,h2⟩,h3⟩:=hr
  rw [setLB,setX,← setX_ok h3,List.map_set,h1,h2]
  rfl
theorem pdR_all {i : Nat} : ∀ {ds : List StD} {pd : PdX},pdR ds pd→(pd.all fun p=>!(Nat.beq p.1 i)) = true→(ds.all fun e=>!(Nat.beq e.i i)) = true
 | [],[],_,_=>rfl
 | [],x :: pd,hr,_=>by simp [pdR] at hr
 | d :: ds,[],hr,_=>by simp [pdR] at hr
 | d :: ds,x :: pd,hr,ha=>by
  simp only [pdR,List.map_cons,List.cons.injEq,Prod.mk.injEq] at hr
  obtain ⟨⟨h1,h2⟩,h3⟩:=hr
  simp only [List.all_cons,Bool.and_eq_true] at ha ⊢
  rw [h1]
  exact ⟨ha.1,pdR_all h3 ha.2⟩
def stoP (T : Tab) (n : Nat) (e : Env) (h : List XLB) (t : TypeId) (x y : Operand) (pd : PdX) (k : PdX→Prop) : Prop:=tyK T t fun ti=>cellsK (xev n e y) fun l=>isK l.length ti.n (match allOne l with
 | false=>False
 | true=>match xev n e x with
  | .ptr i off=>cellsAtK h i fun t0 cs=>match Nat.ble (off + l.length) cs.length with
   | true=>match pd.all fun p=>!(Nat.beq p.1 i) with
    | true=>setsV (XV.denL cs) off (List.replicate l.length .any) = XV.denL cs∧putsK cs off l fun cs'=>k (pd ++ [(i,t0,cs')])
    | false=>False
   | false=>False
  | _=>False)
theorem Keeps.trans {C C' C'' : Cx} (a : Keeps C C') (b : Keeps C' C'') : Keeps C C'' where
 blk k h1 h2:=by
  obtain ⟨e1,s1,l1⟩:=a.blk k h1 h2
  obtain ⟨e2,s2,l2⟩:=b.blk k s1 l1
  exact ⟨e2.trans e1,s2,l2⟩
 base:=Nat.le_trans b.base a.base
 loc i hi:=⟨(b.loc i (a.loc i hi).1).1,(b.loc i (a.loc i hi).1).2.trans (a.loc i hi).2⟩
 own u e sz n xs h:=b.own _ _ _ _ _ (a.own _ _ _ _ _ h)
 zn i k hi hz hk:=by
  obtain ⟨e1,s1,l1⟩:=a.zn i k hi hz hk
  obtain ⟨e2,s2,l2⟩:=b.zn i k (a.loc i hi).1 s1 l1
  exact ⟨e2.trans e1,s2,l2⟩
theorem TStep.anyd {s : List TV} {hh : List LB} {tv : TV} {t : TypeId} {cs : List TV} (hs : TStep P B w0 hh s o tv (some (.cells t cs))) : TStep P B w0 hh s o tv (some (.cells t (List.replicate cs.length .any))):=fun ρ h' w a H hn R hx K Q hK=>hs ρ h' w a H (fun _=>hn rfl) R hx K Q fun u w' ρ' R' KK hb hd=>by
 have e2 : updf h' hh.length (.cells t (List.replicate cs.length .any)) = updf (addf h' hh.length (some (.cells t cs))) hh.length (.cells t (List.replicate cs.length .any)):=by
  funext j
  simp only [addf,updf]
  split <;> rfl
 have hi : addf h' hh.length (some (.cells t cs)) hh.length = .cells t cs:=updf_same ..
 have hhere : (addf h' hh.length (some (.cells t cs)) hh.length).here:=by rw [hi]; trivial
 obtain ⟨g,vs,q1,q2,q3,q4⟩:=R'.blk _ t cs hi
 have hg : blkOf (ρ' hh.length) = some g:=by rw [q1]; rfl
 have K2 : Keeps (cxOf B ρ' (addf h' hh.length (some (.cells t cs))) w') (cxOf B ρ' (updf (addf h' hh.length (some (.cells t cs))) hh.length (.cells t (List.replicate cs.length .any))) w'):=.put hhere trivial hg (World.grownBy.refl _ _)
 refine hK u w' ρ' ?_ ?_ hb ?_
 ·show Rel B w0 ρ' (updf h' hh.length _) w'
  rw [e2]
  refine R'.put hhere trivial hg q3 (World.grownBy.refl _ _) (fun t' cs' e=>?_) (fun e sz els e'=>by cases e')
  injection e with e1 e2
  subst e1 e2
  exact ⟨g,vs,q1,q2,q3,DnL.anys _ _ (by rw [q4.len])⟩
 ·show Keeps _ (cxOf B ρ' (updf h' hh.length _) w')
  rw [e2]; exact KK.trans K2
 ·show Dn (cxOf B ρ' (updf h' hh.length _) w') tv u
  rw [e2]; exact Dn.keep K2 _ _ hd
def XSa (an : Bool) (P : Program) (T : Tab) (n : Nat) (h : List XLB) (e : Env) (o : Op) (k : XV→Option XLB→Prop) : Prop:=match an with
 | false=>XS P T n h e o k
 | true=>match o with
  | .alloc t=>zK T t fun _ z=>cellsK (xc z) fun cs=>lenK h fun hl=>k (.ptr hl 0) (some (.cells t (List.replicate cs.length .any)))
  | o=>XS P T n h e o k
theorem XSa_ok {an : Bool} (O : TabOk P T) {k : XV→Option XLB→Prop} (hh : XSa an P T n h e o.op k) : ∃ v new,TStep P B w0 (h.map XLB.den) (toL n e) o v.den (Option.map XLB.den new)∧k v new:=by
 unfold XSa at hh
 split at hh
 ·exact XS_ok O hh
 ·split at hh
  ·rename_i t ho
   obtain ⟨ti,z,ht,hz,hh⟩:=zK_ok O hh
   obtain ⟨vs,hv,hh⟩:=cellsK_ok hh
   have hh:=lenK_ok hh
   rw [xc_den] at hv
   have:=(S_alloc (P:=P) (B:=B) (w0:=w0) (h:=h.map XLB.den) (s:=toL n e) ho hz hv).anyd
   simp only [List.length_map] at this
   refine ⟨.ptr h.length 0,some (.cells t (List.replicate vs.length .any)),?_,hh⟩
   have e1 : (XV.denL vs).length = vs.length:=by rw [denL_map]; simp
   have e2 : XV.denL (List.replicate vs.length XV.any) = List.replicate vs.length TV.any:=by rw [denL_map,List.map_replicate]; rfl
   simp only [Option.map_some,XLB.den,e2]
   rw [e1] at this
   exact this
  ·exact XS_ok O hh
def XPs (an : Bool) (P : Program) (T : Tab) (n : Nat) (L : List Oper) : List Oper→Env→List XLB→PdX→(Env→List XLB→PdX→Prop)→Prop
 | [],e,h,pd,k=>k e h pd
 | o :: r,e,h,pd,k=>match o.op with
  | .store t x y=>match o.guard with
   | none=>match o.dst with
    | none=>stoP T n e h t x y pd fun pd=>XPs an P T n L r e h pd k
    | some _=>False
   | some _=>False
  | _=>guardK n L e o.guard (XSa an P T n h e o.op fun v new=>putK n e o.dst v fun e'=>addK h new fun h'=>XPs an P T n L r e' h' pd k) (putK n e o.dst (.p (.v undef) (nlv _)) fun e'=>XPs an P T n L r e' h pd k)
theorem XPs_ok {an : Bool} (O : TabOk P T) {L : List Oper} {K : List TV→List LB→List StD→Prop} : ∀ {l : List Oper} {e : Env} {h : List XLB} {pd : PdX} {ds : List StD} {k : Env→List XLB→PdX→Prop},pdR ds pd→XPs an P T n L l e h pd k→(∀ e h pd ds,pdR ds pd→k e h pd→K (toL n e) (h.map XLB.den) ds)→TPs P B w0 L l (toL n e) (h.map XLB.den) ds K
 | [],e,h,pd,ds,k,hr,hh,hk=>hk _ _ _ _ hr hh
 | o :: r,e,h,pd,ds,k,hr,hh,hk=>by
  have gen : (guardK n L e o.guard (XSa an P T n h e o.op fun v new=>putK n e o.dst v fun e'=>addK h new fun h'=>XPs an P T n L r e' h' pd k) (putK n e o.dst (.p (.v undef) (nlv _)) fun e'=>XPs an P T n L r e' h pd k))→TPs P B w0 L (o :: r) (toL n e) (h.map XLB.den) ds K:=fun hh=>by
   have key : ∀ {e : Env} {h : List XLB} {v : XV} {new : Option XLB},(putK n e o.dst v fun e'=>addK h new fun h'=>XPs an P T n L r e' h' pd k)→TPs P B w0 L r (putO (toL n e) o.dst v.den) (addO (h.map XLB.den) (new.map XLB.den)) ds K:=fun hh=>by
    obtain ⟨e',he,hh⟩:=putK_ok hh
    obtain ⟨h',hh',hh⟩:=addK_ok hh
    have:=XPs_ok O hr hh hk
    rw [he,hh'] at this
    exact this
   rcases guardK_ok hh with ⟨hg,hh⟩ | ⟨j,b,og,d,hg,hog,hd,hlt,hh⟩
   ·obtain ⟨v,new,hs,hh⟩:=XSa_ok (B:=B) (w0:=w0) O hh
    exact .st hg hs fun s' h' e1 e2=>by rw [e1,e2]; exact key hh
   ·have hlt' : d < (toL n e).length:=by rw [toL_len]; exact hlt
    rcases hh with ⟨hb,hh⟩ | ⟨x,hx,hn,hh⟩
    ·obtain ⟨v,new,hs,hh⟩:=XSa_ok (B:=B) (w0:=w0) O hh
     exact .st_g hg hog hd hlt' hb hs fun s' h' e1 e2=>by rw [e1,e2]; exact key hh
    ·obtain ⟨e',he,hh⟩:=putK_ok hh
     have:=XPs_ok O hr hh hk
     rw [he] at this
     exact .sk_g hg hog hd hlt' hx hn fun s' h' e1 e2=>by rw [e1,e2]; exact this
  unfold XPs at hh
  split at hh
  ·rename_i t x y hop
   split at hh
   ·rename_i hg
    split at hh
    ·rename_i hdst
     unfold stoP at hh
     obtain ⟨ti,ht,hh⟩:=tyK_ok O hh
     obtain ⟨l,hl,hh⟩:=cellsK_ok hh
     obtain ⟨hn,hh⟩:=isK_ok hh
     rw [xev_den] at hl
     have hlen : (XV.denL l).length = l.length:=by rw [denL_map]; simp
     split at hh
     ·exact hh.elim
     ·rename_i h1
      have h1:=allOne_ok h1
      have hx:=xev_den n e x
      split at hh
      ·rename_i i off hv
       rw [hv] at hx
       obtain ⟨t0,cs,h2,_,hh⟩:=cellsAtK_ok hh
       split at hh
       ·rename_i h3
        have h3:=Nat.le_of_ble_eq_true h3
        split at hh
        ·rename_i h4
         obtain ⟨h5,hh⟩:=hh
         have hh:=putsK_ok (k:=fun cs'=>XPs an P T n L r e h (pd ++ [(i,t0,cs')]) k) hh
         have hlc : (XV.denL cs).length = cs.length:=by rw [denL_map]; simp
         refine TPs.sto hg hop hdst hx.symm h2 ht hl (by omega) h1 (by omega) (by rw [hlen]; exact h5) (pdR_all hr h4) ?_
         refine XPs_ok O ?_ hh hk
         unfold pdR at hr ⊢
         rw [List.map_append,List.map_append,hr]
         simp only [List.map_cons,List.map_nil,StD.lb,denL_setsV]
        ·exact hh.elim
       ·exact hh.elim
      ·exact hh.elim
    ·exact hh.elim
   ·exact hh.elim
  ·exact gen hh
inductive RegG (P : Program) (B : Nat) (w0 : World) (T : Tab) (n : Nat) (l : List Oper) (e : Env) (h : List XLB) (gs : Frames) (k : KK) : Prop
 | par (m : Nat) (hB : regB l m = true) (hx : takeK m l fun l1=>dropK m l fun l2=>XP P T n l l1 e h fun e h=>XL P B w0 T n l l2 e h gs k) : RegG P B w0 T n l e h gs k
 | late (m : Nat) (fs : List (Nat × Nat × Nat)) (hB : regB l m = true) (hx : anyAll fs h fun h=>takeK m l fun l1=>dropK m l fun l2=>XPs false P T n l l1 e h [] fun e h pd=>XL P B w0 T n l l2 e (setX h pd) gs k) : RegG P B w0 T n l e h gs k
 | latea (m : Nat) (fs : List (Nat × Nat × Nat)) (hB : regB l m = true) (hx : anyAll fs h fun h=>takeK m l fun l1=>dropK m l fun l2=>XPs true P T n l l1 e h [] fun e h pd=>XL P B w0 T n l l2 e (setX h pd) gs k) : RegG P B w0 T n l e h gs k
 | ta (ht : TabOk P T→∀ (gh : List Value) (Q : Exit→St→Prop),(∀ e h gs,k e h gs→Q .normal (xst n e h gs))→TA P B w0 gh l.toArray (xst n e h gs) Q) : RegG P B w0 T n l e h gs k
theorem regG_ta (O : TabOk P T) {l : List Oper} {k : KK} (hh : RegG P B w0 T n l e h gs k) (hk : ∀ e h gs,k e h gs→Q .normal (xst n e h gs)) : TA P B w0 gh l.toArray (xst n e h gs) Q:=by
 cases hh with
 | ta ht=>exact ht O gh Q hk
 | par m hB hx=>
  have hx:=dropK_ok (k:=fun l2=>XP P T n l (l.take m) e h fun e h=>XL P B w0 T n l l2 e h gs k) (takeK_ok (k:=fun l1=>dropK m l fun l2=>XP P T n l l1 e h fun e h=>XL P B w0 T n l l2 e h gs k) hx)
  refine TA.par (σ:=xst n e h gs) m O.mo hB ?_
  exact XP_ok O hx fun e h h1=>XL_ok O l.toArray gh Q (by simpa using h1) hk
 | late m fs hB hx=>
  obtain ⟨h,hx,hle⟩:=anyAll_ok (B:=B) (w0:=w0) (gh:=gh) (gs:=gs) (e:=e) (n:=n) hx
  refine TA.le ?_ hle
  have hx:=dropK_ok (k:=fun l2=>XPs false P T n l (l.take m) e h [] fun e h pd=>XL P B w0 T n l l2 e (setX h pd) gs k) (takeK_ok (k:=fun l1=>dropK m l fun l2=>XPs false P T n l l1 e h [] fun e h pd=>XL P B w0 T n l l2 e (setX h pd) gs k) hx)
  refine TA.late (σ:=xst n e h gs) m O.mo hB ?_
  refine XPs_ok O (by rfl) hx fun e h pd ds hr h1=>?_
  have:=XL_ok O l.toArray gh Q (by simpa using h1) hk
  rw [setX_ok hr]
  exact this
 | latea m fs hB hx=>
  obtain ⟨h,hx,hle⟩:=anyAll_ok (B:=B) (w0:=w0) (gh:=gh) (gs:=gs) (e:=e) (n:=n) hx
  refine TA.le ?_ hle
  have hx:=dropK_ok (k:=fun l2=>XPs true P T n l (l.take m) e h [] fun e h pd=>XL P B w0 T n l l2 e (setX h pd) gs k) (takeK_ok (k:=fun l1=>dropK m l fun l2=>XPs true P T n l l1 e h [] fun e h pd=>XL P B w0 T n l l2 e (setX h pd) gs k) hx)
  refine TA.late (σ:=xst n e h gs) m O.mo hB ?_
  refine XPs_ok O (by rfl) hx fun e h pd ds hr h1=>?_
  have:=XL_ok O l.toArray gh Q (by simpa using h1) hk
  rw [setX_ok hr]
  exact this
theorem regG_ok (O : TabOk P T) {id : Nat} {l : List Oper} {k : KK} (hh : RegG P B w0 T n l e h gs k) (hk : ∀ e h gs,k e h gs→Q .normal (xst n e h gs)) : TW P B w0 gh (.region id l.toArray true) (xst n e h gs) Q:=(regG_ta O hh hk).tw O.mo
def gotoOf : Code→Option Nat
 | .goto l=>some l
 | .seq a b=>match gotoOf a with
  | some l=>some l
  | none=>gotoOf b
 | .cond _ a b=>match gotoOf a with
  | some l=>some l
  | none=>gotoOf b
 | .block _ c=>gotoOf c
 | .loop c=>gotoOf c
 | _=>none
def noG (K : XQ) : XQ:=fun ex e h gs=>match ex with
 | .goto _=>False
 | ex=>K ex e h gs
def ridOf : Code→Nat
 | .region id _ _=>id
 | .seq a _=>ridOf a
 | _=>0
def stopB (gs : Frames) (a : Code) : Bool:=match gs with
 | (0,m) :: _=>match look m (ridOf a) with
  | .any=>false
  | _=>true
 | _=>false
def XR (P : Program) (B : Nat) (w0 : World) (T : Tab) (n : Nat) : XQ→Frames→List XLB→Env→Code→Prop
 | K,gs,h,e,.skip=>K .normal e h gs
 | K,gs,h,e,.region _ ops draw=>match draw with
  | false=>XL P B w0 T n ops.toList ops.toList e h gs fun e h gs=>K .normal e h gs
  | true=>RegG P B w0 T n ops.toList e h gs fun e h gs=>K .normal e h gs
 | K,gs,h,e,.seq a b=>match stopB gs a with
  | true=>XT P B w0 n (.seq a b) e h gs K
  | false=>XR P B w0 T n (fun ex e h gs=>match ex with
   | .normal=>XR P B w0 T n K gs h e b
   | ex=>K ex e h gs) gs h e a
 | K,gs,h,e,.cond c a b=>boolK (xev n e c) fun v=>bcase v (XR P B w0 T n K gs h e a) (XR P B w0 T n K gs h e b)
 | K,gs,h,e,.block id c=>XR P B w0 T n (fun ex e h gs=>match ex with
  | .exit id'=>match Nat.beq id' id with
   | true=>K .normal e h gs
   | false=>K (.exit id') e h gs
  | ex=>K ex e h gs) gs h e c
 | K,gs,h,e,.exit id=>K (.exit id) e h gs
 | K,gs,h,e,.goto l=>K (.goto l) e h gs
 | K,gs,h,e,.label _=>K .normal e h gs
 | K,gs,h,e,.ret=>K .ret e h gs
 | K,gs,h,e,.scope c=>match gotoOf c with
  | none=>XR P B w0 T n (noG K) gs h e c
  | some l=>match findLabel c l with
   | none=>False
   | some rest=>XR P B w0 T n (fun ex e h gs=>match ex with
    | .goto l'=>match Nat.beq l' l with
     | true=>XT P B w0 n rest e h gs (noG K)
     | false=>False
    | ex=>K ex e h gs) gs h e c
 | K,gs,h,e,c=>XT P B w0 n c e h gs K
abbrev X (P : Program) (B : Nat) (w0 : World) (T : Tab) (n : Nat) (c : Code) (e : Env) (h : List XLB) (gs : Frames) (K : XQ) : Prop:=XR P B w0 T n K gs h e c
theorem X_ok (O : TabOk P T) : ∀ {c : Code} {e : Env} {h : List XLB} {gs : Frames} {K : XQ},X P B w0 T n c e h gs K→XT P B w0 n c e h gs K
 | .skip,e,h,gs,K,hh=>⟨fun gh Q hq=>.skip (hq _ _ _ _ hh)⟩
 | .region id ops draw,e,h,gs,K,hh=>⟨fun gh Q hq=>by
  simp only [X,XR] at hh
  split at hh
  ·exact TW.region (XL_ok O ops gh Q hh fun e h gs h1=>hq _ _ _ _ h1)
  ·have:=regG_ok (gh:=gh) (Q:=Q) (id:=id) O hh fun e h gs h1=>hq _ _ _ _ h1
   simpa using this⟩
 | .seq a b,e,h,gs,K,hh=>⟨fun gh Q hq=>by
  simp only [X,XR] at hh
  split at hh
  ·exact hh.ok gh Q hq
  refine .seq ((X_ok O hh).ok gh _ fun ex e h gs h1=>?_)
  cases ex with
  | normal=>exact (X_ok O h1).ok gh Q hq
  | _=>exact hq _ _ _ _ h1⟩
 | .cond c a b,e,h,gs,K,hh=>⟨fun gh Q hq=>by
  simp only [X,XR] at hh
  obtain ⟨v,hv,hh⟩:=boolK_ok hh
  rw [xev_den] at hv
  refine .cond (σ:=xst n e h gs) hv (fun hb=>?_) (fun hb=>?_)
  ·subst hb; exact (X_ok (c:=a) O hh).ok gh Q hq
  ·subst hb; exact (X_ok (c:=b) O hh).ok gh Q hq⟩
 | .block id c,e,h,gs,K,hh=>⟨fun gh Q hq=>by
  simp only [X,XR] at hh
  refine .block ((X_ok O hh).ok gh _ fun ex e h gs h1=>?_)
  cases ex with
  | exit id'=>
   simp only [inBlockT,if_beq]
   cases hb : Nat.beq id' id with
   | true=>simp only [hb] at h1 ⊢; exact hq _ _ _ _ h1
   | false=>simp only [hb] at h1 ⊢; exact hq _ _ _ _ h1
  | _=>exact hq _ _ _ _ h1⟩
 | .exit id,e,h,gs,K,hh=>⟨fun gh Q hq=>.exit (hq _ _ _ _ hh)⟩
 | .goto l,e,h,gs,K,hh=>⟨fun gh Q hq=>.goto (hq _ _ _ _ hh)⟩
 | .label l,e,h,gs,K,hh=>⟨fun gh Q hq=>.label (hq _ _ _ _ hh)⟩
 | .ret,e,h,gs,K,hh=>⟨fun gh Q hq=>.ret (hq _ _ _ _ hh)⟩
 | .scope c,e,h,gs,K,hh=>⟨fun gh Q hq=>by
  have hn : ∀ ex e h gs,noG K ex e h gs→noGotoT Q ex (xst n e h gs):=fun ex e h gs h1=>by
   cases ex <;> first | exact h1.elim | exact hq _ _ _ _ h1
  simp only [X,XR] at hh
  split at hh
  ·exact .scope ((X_ok O hh).ok gh _ hn)
  ·rename_i l hl
   split at hh
   ·exact hh.elim
   ·rename_i rest hr
    refine .scope_l l hr ((X_ok O hh).ok gh _ fun ex e h gs h1=>?_)
    cases ex with
    | goto l'=>
     simp only at h1
     split at h1
     ·rename_i hb
      exact ⟨Nat.eq_of_beq_eq_true hb,h1.ok gh _ hn⟩
     ·exact h1.elim
    | _=>exact hq _ _ _ _ h1⟩
 | .loop c,e,h,gs,K,hh=>hh
 | .rangeFunc ..,e,h,gs,K,hh=>hh
 | .refuse _,e,h,gs,K,hh=>hh
end
end Go.Proofs.YtpgfhkbnngjegaaGreatDoor
