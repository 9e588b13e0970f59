/- Numbers counted up in place, in bytes made behind a mark, where local blocks stay. No condition. -/
import Derived.Test.YtpgfhkbnngjegaaGreatDoorU6
namespace Go.Proofs.YtpgfhkbnngjegaaGreatDoor
open Go.RowKit
set_option linter.unusedVariables false
set_option linter.unusedSimpArgs false
theorem DnL.of_at {C : Cx} : ∀ {ts : List TV} {us : List Value},ts.length = us.length→(∀ (i : Nat) (t : TV) (u : Value),ts[i]? = some t→us[i]? = some u→Dn C t u)→DnL C ts us
 | [],us,hl,_=>by simp only [DnL]; exact List.eq_nil_of_length_eq_zero hl.symm
 | t :: ts,[],hl,_=>by simp at hl
 | t :: ts,u :: us,hl,hh=>DnL.cons (hh 0 t u rfl rfl) (DnL.of_at (by simpa using hl) fun i a b ha hb=>hh (i + 1) a b (by simpa using ha) (by simpa using hb))
theorem toL_at {n i : Nat} {e : Env} {t : TV} (h : (toL n e)[i]? = some t) : i < n∧t = (look e i).den:=by
 have hi : i < n:=by
  have:=(List.getElem?_eq_some_iff.1 h).1
  rwa [toL_len] at this
 rw [toL_get? e hi] at h
 exact ⟨hi,(Option.some.inj h).symm⟩
section
variable {P : Program} {B : Nat} {w0 : World} {T : Tab} {n : Nat} {e : Env} {h : List XLB} {gs : Frames} {K : XQ} {c : Code}
inductive MarkV (n : Nat) (h : List XLB) (us : Nat→Value) (e : Env) (d : Nat) : XV→Prop
 | any : MarkV n h us e d .any
 | val {x : Value} {hp : Nl (.v x)} (hv : look e d = .p (.v x) hp) : MarkV n h us e d (.p (.v x) hp)
 | pin {t0 t : TV} {hn : Nl t} (hd : Nat.blt d n = true) (ha : argP (h.map XLB.den) (look e d).den = some t0) (hp : Pu t0) (hu : untag t0 = t) : MarkV n h us e d (.pin (us d) t hn)
def MarkE (n : Nat) (h : List XLB) (us : Nat→Value) (e : Env) : Env→Prop
 | []=>True
 | x :: r=>MarkV n h us e x.1 x.2∧MarkE n h us e r
theorem MarkE.look {us : Nat→Value} : ∀ {e' : Env},MarkE n h us e e'→∀ d,MarkV n h us e d (look e' d)
 | [],_,d=>.any
 | x :: r,hh,d=>by
  by_cases hd : x.1 = d
  ·have e1 : Go.Proofs.YtpgfhkbnngjegaaGreatDoor.look (x :: r) d = x.2:=by
    have:=look_same r x.1 x.2
    rw [← hd]; exact this
   rw [e1,← hd]
   exact hh.1
  ·have e1 : Go.Proofs.YtpgfhkbnngjegaaGreatDoor.look (x :: r) d = Go.Proofs.YtpgfhkbnngjegaaGreatDoor.look r d:=look_ne r x.2 hd
   rw [e1]
   exact MarkE.look hh.2 d
def PinsE (M : Nat) (w1 : World) : Env→Prop
 | []=>True
 | x :: r=>(match x.2 with
  | .pin u t _=>PinOk M w1 u t
  | _=>True)∧PinsE M w1 r
def valX : XV→XV
 | .p (.v x) h=>.p (.v x) h
 | _=>.any
theorem markV_val {us : Nat→Value} (d : Nat) : MarkV n h us e d (valX (look e d)):=by
 unfold valX
 split
 ·rename_i x hp hx; exact .val hx
 ·exact .any
theorem look_app : ∀ {a b : Env} (d : Nat),(∃ x ∈ a,x.1 = d∧look (a ++ b) d = look a d)∨((∀ x ∈ a,x.1 ≠ d)∧look (a ++ b) d = look b d)
 | [],b,d=>.inr ⟨by simp,rfl⟩
 | x :: r,b,d=>by
  by_cases hd : x.1 = d
  ·subst hd
   refine .inl ⟨x,by simp,rfl,?_⟩
   have e1:=look_same (r ++ b) x.1 x.2
   have e2:=look_same r x.1 x.2
   exact e1.trans e2.symm
  ·have e1 : Go.Proofs.YtpgfhkbnngjegaaGreatDoor.look ((x :: r) ++ b) d = Go.Proofs.YtpgfhkbnngjegaaGreatDoor.look (r ++ b) d:=look_ne (r ++ b) x.2 hd
   have e2 : Go.Proofs.YtpgfhkbnngjegaaGreatDoor.look (x :: r) d = Go.Proofs.YtpgfhkbnngjegaaGreatDoor.look r d:=look_ne r x.2 hd
   rcases look_app (a:=r) (b:=b) d with ⟨y,h1,h2,h3⟩ | ⟨h1,h2⟩
   ·exact .inl ⟨y,by simp [h1],h2,by rw [e1,e2,h3]⟩
   ·refine .inr ⟨fun y hy=>?_,by rw [e1,h2]⟩
    rcases List.mem_cons.1 hy with rfl | hy
    ·exact hd
    ·exact h1 y hy
def bkE (e : Env) : List Nat→Env
 | []=>[]
 | k :: r=>(k,look e k) :: bkE e r
def KeptP (n : Nat) (us : Nat→Value) (e1 : Env) : List Nat→Prop
 | []=>True
 | k :: r=>(∃ t hn,look e1 k = .pin (us k) t hn)∧Nat.blt k n = true∧KeptP n us e1 r
inductive BackV (n : Nat) (us : Nat→Value) (e : Env) (w : XV) : XV→Prop
 | any : BackV n us e w .any
 | val {x y : Value} {hp : Nl (.v x)} {hq : Nl (.v y)} (hv : w = .p (.v x) hp) (hx : x = y) : BackV n us e w (.p (.v y) hq)
 | pin {k : Nat} {t : TV} {hn : Nl t} (hv : w = .pin (us k) t hn) (hk : Nat.blt k n = true) : BackV n us e w (look e k)
theorem back_look {us : Nat→Value} {e1 : Env} : ∀ {ks : List Nat},KeptP n us e1 ks→∀ d,BackV n us e (look e1 d) (look (bkE e ks ++ mapE valX e1) d)
 | [],_,d=>by
  show BackV n us e (look e1 d) (look (mapE valX e1) d)
  rw [look_map (f:=valX) rfl]
  unfold valX
  split
  ·rename_i x hp hx; rw [hx]; exact .val rfl rfl
  ·exact .any
 | k :: r,hh,d=>by
  obtain ⟨⟨t,hn,h1⟩,h2,h3⟩:=hh
  by_cases hd : k = d
  ·subst hd
   have : Go.Proofs.YtpgfhkbnngjegaaGreatDoor.look (bkE e (k :: r) ++ mapE valX e1) k = look e k:=look_same (bkE e r ++ mapE valX e1) k (look e k)
   rw [this]
   exact .pin h1 h2
  ·have : Go.Proofs.YtpgfhkbnngjegaaGreatDoor.look (bkE e (k :: r) ++ mapE valX e1) d = look (bkE e r ++ mapE valX e1) d:=look_ne (bkE e r ++ mapE valX e1) (look e k) hd
   rw [this]
   exact back_look h3 d
def backQ (n : Nat) (us : Nat→Value) (ks : List Nat) (e : Env) (h : List XLB) (gs : Frames) (K : XQ) : XQ:=fun ex e1 _ _=>KeptP n us e1 ks∧forceE (bkE e ks ++ mapE valX e1) fun eo=>K ex eo h gs
def backC (P : Program) (B : Nat) (w0 : World) (n : Nat) (us : Nat→Value) (ks : List Nat) (e : Env) (h : List XLB) (gs : Frames) (K : XQ) : Code→Env→List XLB→Frames→Prop:=fun r e1 _ _=>KeptP n us e1 ks∧forceE (bkE e ks ++ mapE valX e1) fun eo=>XT P B w0 n r eo h gs K
def XChR (P : Program) (B : Nat) (w0 : World) (T : Tab) (n : Nat) : XQ→(Code→Env→List XLB→Frames→Prop)→Frames→List XLB→Env→Code→Nat→Prop
 | K,Kb,gs,h,e,.seq a b,0=>XR P B w0 T n (fun ex e h gs=>match ex with
  | .normal=>Kb b e h gs
  | ex=>K ex e h gs) gs h e a
 | K,Kb,gs,h,e,.seq a b,m + 1=>XR P B w0 T n (fun ex e h gs=>match ex with
  | .normal=>XChR P B w0 T n K Kb gs h e b m
  | ex=>K ex e h gs) gs h e a
 | _,_,_,_,_,_,_=>False
abbrev XCh (P : Program) (B : Nat) (w0 : World) (T : Tab) (n : Nat) (m : Nat) (c : Code) (e : Env) (h : List XLB) (gs : Frames) (K : XQ) (Kb : Code→Env→List XLB→Frames→Prop) : Prop:=XChR P B w0 T n K Kb gs h e c m
theorem xch_ok (O : TabOk P T) : ∀ (m : Nat) {c : Code} {e : Env} {h : List XLB} {gs : Frames} {K : XQ} {Kb : Code→Env→List XLB→Frames→Prop},XCh P B w0 T n m c e h gs K Kb→∀ {gh : List Value} {F : Exit→Act→World→Prop},
  (∀ ex e h gs,K ex e h gs→∀ ρ a w,RelS B w0 gh ρ (xst n e h gs) a w→F ex a w)→(∀ r e h gs,Kb r e h gs→∀ ρ a w,RelS B w0 gh ρ (xst n e h gs) a w→r.wp P F a w)→∀ ρ a w,RelS B w0 gh ρ (xst n e h gs) a w→c.wp P F a w
 | 0,.seq x y,e,h,gs,K,Kb,hx,gh,F,hK,hb,ρ,a,w,hr=>by
  simp only [XCh,XChR] at hx
  refine wp_seq (wp_mono ((X_ok O hx).ok gh (fun ex σ=>match ex with
   | .normal=>∀ ρ a w,RelS B w0 gh ρ σ a w→y.wp P F a w
   | ex=>∀ ρ a w,RelS B w0 gh ρ σ a w→F ex a w) (fun ex e h gs h1=>?_) ρ a w hr) fun ex a w ⟨σ,ρ,h1,h2⟩=>?_)
  ·cases ex <;> first | exact hb _ _ _ _ h1 | exact hK _ _ _ _ h1
  ·cases ex <;> exact h1 ρ a w h2
 | m + 1,.seq x y,e,h,gs,K,Kb,hx,gh,F,hK,hb,ρ,a,w,hr=>by
  simp only [XCh,XChR] at hx
  refine wp_seq (wp_mono ((X_ok O hx).ok gh (fun ex σ=>match ex with
   | .normal=>∀ ρ a w,RelS B w0 gh ρ σ a w→y.wp P F a w
   | ex=>∀ ρ a w,RelS B w0 gh ρ σ a w→F ex a w) (fun ex e h gs h1=>?_) ρ a w hr) fun ex a w ⟨σ,ρ,h1,h2⟩=>?_)
  ·cases ex <;> first | exact xch_ok O m h1 hK hb | exact hK _ _ _ _ h1
  ·cases ex <;> exact h1 ρ a w h2
theorem Rel.none {M : Nat} {w : World} {ρ : Nat→Value} (hg : GlB M w0) (hb : Below M w0 w) (hs : M ≤ w.heap.size) (ho : Oth w0 w) : Rel M w0 ρ (hf []) w where
 oth:=ho
 below:=hb
 gl0:=hg
 size:=hs
 blk i t cs hi:=by simp [hf] at hi
 row i e sz els hi:=by simp [hf] at hi
 sep i j g hi hj _ _:=by simp [hf,LB.here] at hi
 ext i x hi:=by simp [hf] at hi
 inj i g hi _:=by simp [hf,LB.here] at hi
theorem XT.markM (g0 : Frames) (hg : denG g0 = []) (O : TabOk P T) (m : Nat) (ks : List Nat) (hx : ∀ (M : Nat) (w1 : World) (us : Nat→Value),∃ pins : Env,MarkE n h us e pins∧(PinsE M w1 pins→forceE (pins ++ mapE valX e) fun e'=>XCh P M w1 T n m c e' [] g0 (backQ n us ks e h gs K) (backC P B w0 n us ks e h gs K))) : XT P B w0 n c e h gs K:=⟨fun gh Q hq ρ a w hr=>by
 have hlen : a.tmps.toList.length = n:=by have:=hr.slots.len; rw [this]; exact toL_len n e
 obtain ⟨pins,hm,hx⟩:=hx w.heap.size w fun d=>(a.tmps.toList[d]?).getD Value.nilFunc
 have hus : ∀ (d : Nat) (u : Value),a.tmps.toList[d]? = some u→(a.tmps.toList[d]?).getD Value.nilFunc = u:=fun d u hu=>by rw [hu]; rfl
 have hat : ∀ d : Nat,d < n→∃ u,a.tmps.toList[d]? = some u∧Dn (cxOf B ρ (hf (h.map XLB.den)) w) (look e d).den u:=fun d hd=>hr.slots.at_ d _ (toL_get? e hd)
 have hpin : ∀ (d : Nat) (v : XV),MarkV n h (fun d=>(a.tmps.toList[d]?).getD Value.nilFunc) e d v→∀ t hn,v = .pin ((a.tmps.toList[d]?).getD Value.nilFunc) t hn→PinOk w.heap.size w ((a.tmps.toList[d]?).getD Value.nilFunc) t:=fun d v hv t hn e1=>by
  cases hv with
  | any=>cases e1
  | val _=>cases e1
  | pin hd ha hp hu=>
   injection e1 with _ e2
   subst e2
   obtain ⟨u,h1,h2⟩:=hat d (Nat.blt_eq.mp hd)
   rw [hus d u h1]
   have h3:=argP_dn (h':=hf (h.map XLB.den)) (fun i _ _=>.inr rfl) hr.rel _ _ u ha h2
   rw [← hu]
   exact Dn.pu (C:=cxAll B ρ (hf (h.map XLB.den)) w) (C':=pinCx w.heap.size w) rfl (fun k hk=>hk) _ _ hp h3
 have hpins : ∀ e2 : Env,MarkE n h (fun d=>(a.tmps.toList[d]?).getD Value.nilFunc) e e2→PinsE w.heap.size w e2:=by
  intro e2
  induction e2 with
  | nil=>intro _; trivial
  | cons x r ih=>
   intro hh
   refine ⟨?_,ih hh.2⟩
   have h1:=hh.1
   split
   ·rename_i u t hn hx2
    rw [hx2] at h1
    have h2:=h1
    cases h1 with
    | pin hd ha hp hu=>exact hpin x.1 _ h2 _ _ rfl
   ·trivial
 have hml : ∀ d,MarkV n h (fun d=>(a.tmps.toList[d]?).getD Value.nilFunc) e d (Go.Proofs.YtpgfhkbnngjegaaGreatDoor.look (pins ++ mapE valX e) d):=fun d=>by
  rcases look_app (a:=pins) (b:=mapE valX e) d with ⟨x,_,_,h3⟩ | ⟨_,h3⟩
  ·rw [h3]; exact hm.look d
  ·rw [h3,look_map (f:=valX) rfl]; exact markV_val d
 have R' : RelS w.heap.size w [] (fun _=>.nilFunc) (xst n (pins ++ mapE valX e) [] g0) a w:=by
  refine ⟨DnL.of_at (by rw [hlen]; exact toL_len n _) fun i t u ht hu=>?_,by show DnL _ (denG g0) _; rw [hg]; exact DnL.nil,Rel.none hr.rel.glb (Below.refl _ _) (Nat.le_refl _) (Oth.refl _),hr.defers⟩
  obtain ⟨hi,rfl⟩:=toL_at ht
  have hv:=hml i
  obtain ⟨u',h1,h2⟩:=hat i hi
  rw [hu] at h1
  injection h1 with h1
  subst h1
  generalize Go.Proofs.YtpgfhkbnngjegaaGreatDoor.look (pins ++ mapE valX e) i = v at hv ⊢
  cases hv with
  | any=>simp [XV.den,Dn]
  | val hv2=>rw [hv2] at h2; simp only [XV.den,Dn] at h2 ⊢; exact h2
  | pin hd ha hp hu2=>simp only [XV.den,Dn]; rw [hu]; rfl
 have out : ∀ e1 h1 g1 ρ' a' w',KeptP n (fun d=>(a.tmps.toList[d]?).getD Value.nilFunc) e1 ks→RelS w.heap.size w [] ρ' (xst n e1 h1 g1) a' w'→RelS B w0 gh ρ (xst n (bkE e ks ++ mapE valX e1) h gs) a' w':=by
  intro e1 h1 g1 ρ' a' w' hb hr'
  obtain ⟨eo,heo⟩ : ∃ eo,eo = bkE e ks ++ mapE valX e1:=⟨_,rfl⟩
  rw [← heo]
  have hbel : Below w.heap.size w w':=hr'.rel.below
  refine ⟨?_,DnL.keep (.grow hbel) _ _ hr.ghost,hr.rel.grow hbel,hr'.defers⟩
  refine DnL.of_at ?_ fun i t u ht hu=>?_
  ·have:=hr'.slots.len
   rw [this]
   exact (toL_len n eo).trans (toL_len n e1).symm
  obtain ⟨hi,rfl⟩:=toL_at ht
  obtain ⟨u',h3,h4⟩:=hr'.slots.at_ i _ (toL_get? e1 hi)
  rw [hu] at h3
  injection h3 with h3
  subst h3
  have hv:=back_look (e:=e) hb i
  rw [← heo] at hv
  generalize Go.Proofs.YtpgfhkbnngjegaaGreatDoor.look eo i = v at hv ⊢
  generalize Go.Proofs.YtpgfhkbnngjegaaGreatDoor.look e1 i = x at hv h4
  cases hv with
  | any=>simp [XV.den,Dn]
  | val hv2 hx=>subst hv2; subst hx; simp only [XV.den,Dn] at h4 ⊢; exact h4
  | pin hv2 hk2=>
   rename_i k t hn
   subst hv2
   simp only [XV.den,Dn] at h4
   obtain ⟨u2,h5,h6⟩:=hat k (Nat.blt_eq.mp hk2)
   rw [hus k u2 h5] at h4
   subst h4
   exact Dn.keep (.grow hbel) _ _ h6
 refine xch_ok O m (forceE_ok (hx (hpins pins hm))) (gh:=[]) (F:=liftQ B w0 gh Q) ?_ ?_ _ a w R'
 ·rintro ex e1 h1 g1 ⟨hb,hk⟩ ρ' a' w' hr'
  exact ⟨_,ρ,hq _ _ _ _ (forceE_ok (k:=fun eo=>K ex eo h gs) hk),out e1 h1 g1 ρ' a' w' hb hr'⟩
 ·rintro r e1 h1 g1 ⟨hb,hk⟩ ρ' a' w' hr'
  exact (forceE_ok (k:=fun eo=>XT P B w0 n r eo h gs K) hk).ok gh Q hq ρ a' w' (out e1 h1 g1 ρ' a' w' hb hr')⟩
inductive SpV (w : XV) : XV→Prop
 | any : SpV w .any
 | val {x : Value} {hp hq : Nl (.v x)} (hv : w = .p (.v x) hp) : SpV w (.p (.v x) hq)
 | pin {u : Value} {t t' : TV} {hp : Nl t} {hq : Nl t'} (hv : w = .pin u t hp) : SpV w (.pin u t' hq)
def spX : XV→XV
 | .p (.v x) h=>.p (.v x) h
 | .pin u t h=>.pin u t h
 | _=>.any
theorem spX_ok (w : XV) : SpV w (spX w):=by
 cases w <;> first | exact .any | exact .pin rfl | (rename_i t hp; cases t <;> first | exact .any | exact .val rfl)
theorem sp_dn {C C' : Cx} {us : List Value} (hd : DnL C (toL n e) us) : DnL C' (toL n (mapE spX e)) us:=by
 refine DnL.of_at (by rw [hd.len]; exact (toL_len n _).trans (toL_len n e).symm) fun i t u ht hu=>?_
 obtain ⟨hi,rfl⟩:=toL_at ht
 obtain ⟨u',h3,h4⟩:=hd.at_ i _ (toL_get? e hi)
 rw [hu] at h3
 injection h3 with h3
 subst h3
 rw [look_map (f:=spX) rfl]
 have hv:=spX_ok (look e i)
 generalize spX (look e i) = v at hv ⊢
 generalize look e i = x at hv h4
 cases hv with
 | any=>simp [XV.den,Dn]
 | val hv2=>subst hv2; simp only [XV.den,Dn] at h4 ⊢; exact h4
 | pin hv2=>subst hv2; simp only [XV.den,Dn] at h4 ⊢; exact h4
def anyG : Frames→Frames
 | []=>[]
 | f :: r=>(f.1,[]) :: anyG r
theorem DnL.split {C : Cx} : ∀ {a b : List TV} {us : List Value},DnL C (a ++ b) us→∃ u1 u2,us = u1 ++ u2∧DnL C a u1∧DnL C b u2
 | [],b,us,h=>⟨[],us,rfl,DnL.nil,h⟩
 | t :: a,b,us,h=>by
  simp only [List.cons_append,DnL] at h
  obtain ⟨u,us',rfl,h1,h2⟩:=h
  obtain ⟨u1,u2,rfl,h3,h4⟩:=DnL.split h2
  exact ⟨u :: u1,u2,rfl,DnL.cons h1 h3,h4⟩
theorem anyG_dn {C C' : Cx} : ∀ {gs : Frames} {us : List Value},DnL C (denG gs) us→DnL C' (denG (anyG gs)) us
 | [],us,h=>by simp only [denG,anyG,DnL] at h ⊢; exact h
 | f :: r,us,h=>by
  simp only [denG] at h
  obtain ⟨u1,u2,rfl,h1,h2⟩:=DnL.split h
  simp only [anyG,denG]
  refine DnL.append ?_ (anyG_dn h2)
  have : toL f.1 [] = List.replicate f.1 .any:=by
   apply List.ext_getElem?
   intro i
   by_cases hi : i < f.1
   ·rw [toL_get? [] hi]; simp [Go.Proofs.YtpgfhkbnngjegaaGreatDoor.look,XV.den,hi]
   ·rw [List.getElem?_eq_none (by rw [toL_len]; omega),List.getElem?_eq_none (by simp; omega)]
  rw [this]
  exact DnL.anys _ _ (by have:=h1.len; rw [this]; exact toL_len _ _)
structure BelO (B : Nat) (w w' : World) : Prop extends Below B w w' where
 oth : Oth w w'
def SpM (P : Program) (f : FuncId) (ts : List TV) : Prop:=entB P f = true∧∀ (C : Cx) (vals : List Value),C.B ≤ C.w.heap.size→DnL C ts vals→Calls P f vals.toArray C.w fun e w'=>e = .returned (.tuple #[])∧BelO C.B C.w w'
theorem sp_enters {w0 : World} {h : List LB} {s : List TV} {o : Oper} {cl : Call} {fop : Operand} {f : FuncId} {caps ts : List TV} (ho : o.op = .call cl) (hcl : cl.callee = .value fop) (hf : tev s fop = .fn (.func f) caps) (hE : entB P f = true)
  (ha : argPL h (cl.args.toList.map (tev s) ++ caps) = some ts) (hm : ∀ (C : Cx) (vals : List Value),C.B ≤ C.w.heap.size→DnL C ts vals→Calls P f vals.toArray C.w fun e w'=>e = .returned (.tuple #[])∧BelO C.B C.w w') {ρ : Nat→Value} {h' : Nat→LB} {w : World} {a : Act} (H : HS h h') (R : Rel B w0 ρ h' w) (hx : ∀ x ∈ o.op.operands.toList,Dn (cxOf B ρ h' w) (tev s x) (a.eval x))
  {K : Act→World→Prop} {Q : Exit→Act→World→Prop} (hK : ∀ w',BelO B w w'→K (a.put o.dst (.tuple #[])) w') : o.wp P a w K Q:=by
 have h1:=hx fop (by simp [ho,Op.operands,Call.operands,hcl])
 rw [hf] at h1
 simp only [Dn] at h1
 obtain ⟨cv,h2,h3⟩:=h1
 have h4 : DnL (cxOf B ρ h' w) (cl.args.toList.map (tev s) ++ caps) (cl.args.toList.map a.eval ++ cv):=(eval_list _ fun x hx'=>hx x (by simp [ho,Op.operands,Call.operands,hcl] at hx' ⊢; exact .inr hx')).append h3
 have h5:=argPL_dn H R _ _ _ ha h4
 have h6:=hm (cxAll B ρ h' w) _ R.size h5
 have e1 : (cl.args.map a.eval ++ cv.toArray) = (cl.args.toList.map a.eval ++ cv).toArray:=by
  apply Array.ext'
  simp
 unfold Oper.wp
 rw [call_run ho hcl h2 hE]
 unfold Oper.upon
 rw [e1]
 refine h6.mono ?_
 rintro e w' ⟨rfl,hb⟩
 exact hK w' hb
theorem WCall.spoil {f : FuncId} {vs : List XV} {dst : Option Tmp} {k : KK} {ts : List TV} (hs : SpM P f ts) (ha : argPL (h.map XLB.den) (XV.denL vs) = some ts) (hk : forceE (mapE spX e) fun e2=>putK n e2 dst .any fun e'=>k e' [] (anyG gs)) : WCall P B w0 f vs n e h gs dst k:=⟨by
 intro gh Q ops rest o cl fop cvs hg ho hcl hf hvs hdst hK ρ a w hr
 subst hdst
 obtain ⟨e',he',hk⟩:=putK_ok (forceE_ok (k:=fun e2=>putK n e2 o.dst .any fun e'=>k e' [] (anyG gs)) hk)
 have hK:=hK _ _ _ hk
 refine wpList_plain hg fun K0 hK0=>?_
 have e1 : XV.denL vs = cl.args.toList.map (tev (toL n e)) ++ XV.denL cvs:=by rw [hvs,denL_map (_ ++ _),List.map_append,← denL_map,← denL_map,evL_den]
 rw [e1] at ha
 refine sp_enters ho hcl hf hs.1 ha hs.2 (fun i _ _=>.inr rfl) hr.rel (fun x _=>tev_dn hr.slots x) fun w' hb=>?_
 refine hK0 _ _ (hK ρ _ _ ⟨?_,anyG_dn hr.ghost,Rel.none hr.rel.gl0 (hr.rel.below.trans hb.toBelow) (Nat.le_trans hr.rel.size hb.size) (hr.rel.oth.trans hb.oth),by rw [put_defers]; exact hr.defers⟩)
 show DnL _ (toL n e') _
 rw [he']
 exact put_dn (sp_dn hr.slots) (by simp [XV.den,Dn])⟩
theorem XMeets.of_XM (ms : Env) (O : TabOk P T) {f : FuncId} {fn : Func} {c : Code} {args : List TV} {avs : List XV} {r : XV} (e0 : Env) (hE : entB P f = true) (hfn : P.funcs[f]? = some fn) (hb : fn.body = some c) (hp : PuL args) (hu : untagL args = XV.denL avs) (he : envA avs 0 = e0) (hle : Nat.ble avs.length fn.ntmps = true)
  (hx : ∀ B w0,X P B w0 T fn.ntmps c e0 [] [(0,ms)] (finQ T fn.ntmps fn.results.toList r.den)) : XMeets P f args r:=⟨hE,TMeets.of_TW hfn hb hp fun B w0=>by
 have hle:=Nat.le_of_ble_eq_true hle
 have hl : args.length = (XV.denL avs).length:=by rw [← hu]; exact (XMeets.of_X.untagL_len args).symm
 rw [hu,hl,← toL_envA hle,he]
 have e1 : xst fn.ntmps e0 [] [(0,ms)] = ⟨toL fn.ntmps e0,[],[]⟩:=rfl
 have:=(X_ok O (hx B w0)).ok [] (endT P fn r.den) (fun ex e h gs hk=>by
  have fin : ∀ {ex : Exit},(ex = .normal∨ex = .ret)→(resX T fn.ntmps e h fn.results.toList fun v=>FinG h v r.den)→endT P fn r.den ex (xst fn.ntmps e h gs):=fun hex hk=>by
   obtain ⟨v,hv,q,ho,hq⟩:=resX_ok O (g:=denG gs) hk
   exact ⟨hex,v.den,q,hv,ho,hq⟩
  cases ex with
  | normal=>exact fin (.inl rfl) hk
  | ret=>exact fin (.inr rfl) hk
  | _=>exact hk.elim)
 rw [e1] at this
 exact this⟩
end
end Go.Proofs.YtpgfhkbnngjegaaGreatDoor

namespace Go.Proofs.YtpgfhkbnngjegaaGreatDoor
open Go.RowKit
set_option linter.unusedVariables false
set_option linter.unusedSimpArgs false
def ICell (w : World) (a : Addr) (k : IntKind) : Prop:=∃ x,w.cell? a = some (.int k x)
theorem Unf.set {w : World} {k : Nat} (h : Unf w k) (q : Addr) (u : Value) : Unf (w.setCell q u) k:=by
 obtain ⟨cur,ty,h⟩:=h
 by_cases e : k = q.block
 ·subst e
  refine ⟨if q.spot.isSome then cur else cur.setIfInBounds q.off u,ty,?_⟩
  unfold World.setCell
  simp only [Array.getElem?_modify,if_true,h,Option.map_some]
 ·exact ⟨cur,ty,by rw [Below.heap_setCell w q u k e]; exact h⟩
theorem Unf.frozen {w : World} {a : Addr} (h : Unf w a.block) : w.frozen? a = false:=by
 obtain ⟨cur,ty,h⟩:=h
 unfold World.frozen?
 rw [h]
 simp
theorem Unf.lt_ {w : World} {k : Nat} (h : Unf w k) : k < w.heap.size:=by
 obtain ⟨cur,ty,h⟩:=h
 exact (Array.getElem?_eq_some_iff.1 h).1
theorem Unf.grow {w w' : World} {k : Nat} (h : Unf w k) (hb : Below w.heap.size w w') : Unf w' k:=by
 unfold Unf
 rw [hb.block k h.lt_]
 exact h
structure Shp (M : Nat) (w w' : World) : Prop where
 below : Below M w w'
 oth : Oth w w'
 cell : ∀ a v,w.cell? a = some v→w'.cell? a = some v∨∃ k x y,v = .int k x∧w'.cell? a = some (.int k y)
 unf : ∀ k,Unf w k→Unf w' k
theorem Shp.refl (M : Nat) (w : World) : Shp M w w:=⟨Below.refl _ _,Oth.refl _,fun _ _ h=>.inl h,fun _ h=>h⟩
theorem Shp.set {M : Nat} {w w' : World} (h : Shp M w w') {q : Addr} (hq : M ≤ q.block) {k : IntKind} (hc : ICell w' q k) (y : Int) : Shp M w (w'.setCell q (.int k y)) where
 below:=h.below.setCell hq _
 oth:=h.oth.trans (.setCell _ _ _)
 cell a v hv:=by
  obtain ⟨z,hz⟩:=hc
  by_cases e : q = a
  ·subst e
   rcases h.cell q v hv with h1 | ⟨k',x,y',h1,h2⟩
   ·rw [hz] at h1
    injection h1 with h1
    exact .inr ⟨k,z,y,h1.symm,World.cell?_setCell_same w' q _ hz⟩
   ·rw [hz] at h2
    injection h2 with h2
    injection h2 with h2 h3
    subst h2
    exact .inr ⟨k,x,y,h1,World.cell?_setCell_same w' q _ hz⟩
  ·rcases h.cell a v hv with h1 | ⟨k',x,y',h1,h2⟩
   ·exact .inl ((World.cell?_setCell_other w' q a _ e).trans h1)
   ·exact .inr ⟨k',x,y',h1,(World.cell?_setCell_other w' q a _ e).trans h2⟩
 unf k' hk:=(h.unf k' hk).set q _
section
variable {P : Program} {B : Nat} {w0 : World} {T : Tab} {n : Nat} {e : Env} {h : List XLB} {gs : Frames} {K : XQ} {c : Code}
def keepE (e : Env) : List Nat→Env
 | []=>[]
 | k :: r=>(k,lowX 0 (look e k)) :: keepE e r
theorem keepE_look : ∀ {ks : List Nat} {e b : Env} (d : Nat),look (keepE e ks ++ b) d = lowX 0 (look e d)∨look (keepE e ks ++ b) d = look b d
 | [],e,b,d=>.inr rfl
 | k :: r,e,b,d=>by
  by_cases hd : k = d
  ·subst hd
   exact .inl (look_same (keepE e r ++ b) k (lowX 0 (look e k)))
  ·have : Go.Proofs.YtpgfhkbnngjegaaGreatDoor.look (keepE e (k :: r) ++ b) d = Go.Proofs.YtpgfhkbnngjegaaGreatDoor.look (keepE e r ++ b) d:=look_ne (keepE e r ++ b) (lowX 0 (look e k)) hd
   rw [this]
   exact keepE_look d
theorem sp_le (v : XV) : LeT (kp (low 0) v.den) (spX v).den:=by
 cases v <;> first | exact .inl rfl | exact .inr (.inl rfl) | (rename_i t hp; cases t <;> first | exact .inl rfl | exact .inr (.inl rfl))
theorem XT.clear2 (ks : List Nat) (hx : forceE (keepE e ks ++ mapE spX e) fun e'=>XT P B w0 n c e' [] (anyG gs) K) : XT P B w0 n c e h gs K:=⟨fun gh Q hq=>by
 have hx:=forceE_ok (k:=fun e'=>XT P B w0 n c e' [] (anyG gs) K) hx
 refine TW.le (hx.ok gh Q hq) ?_
 refine SLe.back (σ:=xst n e h gs) 0 ?_ (by simp [xst,LeB]) ?_
 ·refine leL_of (by simp [xst,kpL_map,toL]) fun i t t' h1 h2=>?_
  have h3:=toL_at h2
  rw [kpL_map,List.getElem?_map] at h1
  cases h4 : (xst n e h gs).s[i]? with
  | none=>rw [h4] at h1; cases h1
  | some t0=>
   rw [h4] at h1
   simp only [Option.map_some,Option.some.injEq] at h1
   obtain ⟨_,rfl⟩:=toL_at h4
   rw [← h1,h3.2]
   rcases keepE_look (ks:=ks) (e:=e) (b:=mapE spX e) i with h5 | h5
   ·rw [h5,lowX_den]; exact .inr (.inl rfl)
   ·rw [h5,look_map (f:=spX) rfl]; exact sp_le _
 ·show LeL (kpL (low 0) (denG gs)) (denG (anyG gs))
  have key : ∀ gs : Frames,LeL (kpL (low 0) (denG gs)) (denG (anyG gs)):=by
   intro gs
   induction gs with
   | nil=>rfl
   | cons f r ih=>
    simp only [denG,anyG,kpL_map,List.map_append] at ih ⊢
    refine LeL.append (leL_of (by simp [toL]) fun i t t' h1 h2=>?_) ih
    obtain ⟨_,rfl⟩:=toL_at h2
    exact .inl rfl
  exact key gs⟩
end
end Go.Proofs.YtpgfhkbnngjegaaGreatDoor

namespace Go.Proofs.YtpgfhkbnngjegaaGreatDoor
open Go.RowKit
set_option linter.unusedVariables false
set_option linter.unusedSimpArgs false
section
variable {P : Program} {B : Nat} {w0 : World} {gh : List Value} {Q Q' : Exit→Act→World→Prop} {ops : Array Oper}
theorem op_then {o : Oper} {a : Act} {w : World} {K next next' : Act→World→Prop} (hn : ∀ a w,next a w→next' a w) (h : o.wp P a w next (Exit.then K Q)) : o.wp P a w next' Q:=by
 unfold Oper.wp at h ⊢
 revert h
 generalize (execOp a.eval o).run P w = r
 intro h
 unfold Oper.upon at h ⊢
 split at h
 ·exact hn _ _ h
 ·exact hn _ _ h
 ·exact hn _ _ h
 ·exact h.mono fun e w' hh=>by
   cases e with
   | returned v=>exact hn _ _ hh
   | panicked c=>exact hh
   | outgrown=>exact hh
 ·exact h.mono fun v w' hh=>hn _ _ hh
 ·exact h
 ·exact h
theorem wpList_app {l2 : List Oper} : ∀ {l1 : List Oper} {a : Act} {w : World},wpList P ops (Exit.then (wpList P ops Q l2) Q) l1 a w→wpList P ops Q (l1 ++ l2) a w
 | [],a,w,h=>h
 | o :: r,a,w,h=>by
  show wpList P ops Q (o :: (r ++ l2)) a w
  unfold wpList at h ⊢
  split
  ·rename_i hw
   rw [if_pos hw] at h
   rcases h with h | h
   ·exact .inl (op_then (fun a w hh=>wpList_app hh) h)
   ·exact .inr h
  ·rename_i hw
   rw [if_neg hw] at h
   exact wpList_app h
theorem wpList_mono {l : List Oper} : ∀ {a : Act} {w : World},(∀ e a w,Q e a w→Q' e a w)→wpList P ops Q l a w→wpList P ops Q' l a w:=by
 induction l with
 | nil=>intro a w hq h; exact hq _ _ _ h
 | cons o r ih=>
  intro a w hq h
  unfold wpList at h ⊢
  split
  ·rename_i hw
   rw [if_pos hw] at h
   rcases h with h | ⟨h,x,y,h2⟩
   ·refine .inl ?_
    unfold Oper.wp at h ⊢
    revert h
    generalize (execOp a.eval o).run P w = r
    intro h
    unfold Oper.upon at h ⊢
    split at h
    ·exact ih hq h
    ·exact ih hq h
    ·exact ih hq h
    ·exact h.mono fun e w' hh=>by
      cases e with
      | returned v=>exact ih hq hh
      | panicked c=>exact hq _ _ _ hh
      | outgrown=>obtain ⟨x,y,hh⟩:=hh; exact ⟨x,y,hq _ _ _ hh⟩
    ·exact h.mono fun v w' hh=>ih hq hh
    ·exact hq _ _ _ h
    ·exact h
   ·exact .inr ⟨h,x,y,hq _ _ _ h2⟩
  ·rename_i hw
   rw [if_neg hw] at h
   exact ih hq h
end
section
variable {P : Program} {B : Nat} {w0 : World} {gh : List Value} {ops : Array Oper}
theorem TL.cat {σ : St} {Q : Exit→St→Prop} {l1 l2 : List Oper} (h : TL P B w0 gh ops l1 σ (thenT (fun σ=>TL P B w0 gh ops l2 σ Q) Q)) : TL P B w0 gh ops (l1 ++ l2) σ Q:=fun ρ a w hr=>
 wpList_app (wpList_mono (fun e a w hh=>by
  have:=lift_then hh
  cases e <;> first | exact this | (obtain ⟨σ',ρ',h1,h2⟩:=this; exact h1 ρ' _ _ h2)) (h ρ a w hr))
end
section
variable {P : Program} {B : Nat} {w0 : World} {T : Tab} {n : Nat} {e : Env} {h : List XLB} {gs : Frames} {K : XQ} {c : Code}
def anyM : Frames→Frames
 | (0,m) :: r=>(0,m) :: anyG r
 | r=>anyG r
theorem anyM_dn {C C' : Cx} {gs : Frames} {us : List Value} (h : DnL C (denG gs) us) : DnL C' (denG (anyM gs)) us:=by
 unfold anyM
 split
 ·rename_i m r
  have e1 : ∀ q : Frames,denG ((0,m) :: q) = denG q:=fun q=>by simp [denG,toL]
  rw [e1] at h ⊢
  exact anyG_dn h
 ·exact anyG_dn h
theorem XT.marks (ms : Env) (hx : XT P B w0 n c e h ((0,ms) :: gs) K) : XT P B w0 n c e h gs K:=⟨fun gh Q hq=>by
 have:=hx.ok gh Q hq
 have e1 : xst n e h ((0,ms) :: gs) = xst n e h gs:=by simp [xst,denG,toL]
 rw [e1] at this
 exact this⟩
end
end Go.Proofs.YtpgfhkbnngjegaaGreatDoor

namespace Go.Proofs.YtpgfhkbnngjegaaGreatDoor
open Go.RowKit
set_option linter.unusedVariables false
set_option linter.unusedSimpArgs false
structure ShpS (S : Nat→Prop) (M : Nat) (w w' : World) : Prop where
 s : Shp M w w'
 k : ∀ k,k < w.heap.size→¬ S k→w'.heap[k]? = w.heap[k]?
section
variable {P : Program} {B : Nat} {w0 : World} {n : Nat} {e : Env} {h : List XLB} {gs : Frames}
end
end Go.Proofs.YtpgfhkbnngjegaaGreatDoor

namespace Go.Proofs.YtpgfhkbnngjegaaGreatDoor
open Go.RowKit
set_option linter.unusedVariables false
set_option linter.unusedSimpArgs false
mutual
def lowB (m : Nat) : XV→Bool
 | .p _ _=>true
 | .any=>true
 | .row j=>Nat.blt j m
 | .ptr j _=>Nat.blt j m
 | .rp j _ _ _=>Nat.blt j m
 | .ag vs=>lowBL m vs
 | .tu vs=>lowBL m vs
 | .fu _ vs=>lowBL m vs
 | .ow _ _ _ _=>true
 | .pin _ _ _=>true
 | .z j _ _=>Nat.blt j m
 | .win j _ _=>Nat.blt j m
def lowBL (m : Nat) : List XV→Bool
 | []=>true
 | v :: vs=>match lowB m v with
  | true=>lowBL m vs
  | false=>false
end
mutual
theorem lowX_id {m : Nat} : ∀ v : XV,lowB m v = true→lowX m v = v
 | .p _ _,_=>rfl
 | .any,_=>rfl
 | .row j,h=>by simp only [lowB] at h; simp only [lowX,h]
 | .ptr j _,h=>by simp only [lowB] at h; simp only [lowX,h]
 | .rp j _ _ _,h=>by simp only [lowB] at h; simp only [lowX,h]
 | .ag vs,h=>by simp only [lowB] at h; simp only [lowX,lowXL_id vs h]
 | .tu vs,h=>by simp only [lowB] at h; simp only [lowX,lowXL_id vs h]
 | .fu _ vs,h=>by simp only [lowB] at h; simp only [lowX,lowXL_id vs h]
 | .ow _ _ _ _,_=>rfl
 | .pin _ _ _,_=>rfl
 | .z j _ _,h=>by simp only [lowB] at h; simp only [lowX,h]
 | .win j _ _,h=>by simp only [lowB] at h; simp only [lowX,h]
theorem lowXL_id {m : Nat} : ∀ vs : List XV,lowBL m vs = true→lowXL m vs = vs
 | [],_=>rfl
 | v :: vs,h=>by
  simp only [lowBL] at h
  split at h
  ·rename_i h1
   simp only [lowXL,lowX_id v h1,lowXL_id vs h]
  ·cases h
end
def lowE (m : Nat) : List Nat→Env→Bool
 | _,[]=>true
 | ds,x :: r=>match memN x.1 ds with
  | true=>false
  | false=>match lowB m x.2 with
   | true=>lowE m (x.1 :: ds) r
   | false=>false
theorem memN_ne {d i : Nat} {ds : List Nat} (h : memN d ds = false) (hi : i ∈ ds) : i ≠ d:=by
 induction ds with
 | nil=>cases hi
 | cons x r ih=>
  simp only [memN] at h
  cases hb : Nat.beq x d with
  | true=>rw [hb] at h; cases h
  | false=>
   rw [hb] at h
   rcases List.mem_cons.1 hi with rfl | hi
   ·exact Nat.ne_of_beq_eq_false hb
   ·exact ih h hi
theorem lowE_le {m : Nat} : ∀ {r pre : Env} {ds : List Nat},(∀ x ∈ pre,x.1 ∈ ds)→lowE m ds r = true→LeEnv m (pre ++ r) r
 | [],_,_,_,_=>True.intro
 | x :: r,pre,ds,hp,h=>by
  simp only [lowE] at h
  split at h
  ·cases h
  ·rename_i h1
   split at h
   ·rename_i h2
    have e1 : look (pre ++ x :: r) x.1 = x.2:=by
     have h3 : ∀ y ∈ pre,y.1 ≠ x.1:=fun y hy=>memN_ne h1 (hp y hy)
     clear hp
     induction pre with
     | nil=>exact look_same r x.1 x.2
     | cons y p ih=>
      have:=look_ne (p ++ x :: r) y.2 (h3 y (List.mem_cons_self ..))
      exact this.trans (ih fun z hz=>h3 z (List.mem_cons_of_mem _ hz))
    refine ⟨by rw [e1,lowX_id _ h2]; exact .rfl,?_⟩
    have:=lowE_le (m:=m) (r:=r) (pre:=pre ++ [x]) (ds:=x.1 :: ds) (fun y hy=>by
     rcases List.mem_append.1 hy with hy | hy
     ·exact List.mem_cons_of_mem _ (hp y hy)
     ·rw [List.mem_singleton.1 hy]; exact List.mem_cons_self ..) h
    rwa [List.append_assoc] at this
   ·cases h
def lowG (m : Nat) : Frames→Bool
 | []=>true
 | f :: r=>match lowE m [] f.2 with
  | true=>lowG m r
  | false=>false
theorem LeFr.same {m : Nat} : ∀ {gs : Frames},lowG m gs = true→LeFr m gs gs
 | [],_=>rfl
 | f :: r,h=>by
  simp only [lowG] at h
  split at h
  ·rename_i h1
   exact ⟨f,r,rfl,rfl,lowE_le (pre:=[]) (fun _ hx=>by cases hx) h1,LeFr.same h⟩
  ·cases h
section
variable {P : Program} {B : Nat} {w0 : World} {T : Tab} {n : Nat} {e : Env} {h : List XLB} {gs : Frames} {K : XQ} {c : Code}
end
end Go.Proofs.YtpgfhkbnngjegaaGreatDoor

namespace Go.Proofs.YtpgfhkbnngjegaaGreatDoor
open Go.RowKit
set_option linter.unusedVariables false
set_option linter.unusedSimpArgs false
section
variable {P : Program} {B : Nat} {w0 : World} {n : Nat} {e : Env} {h : List XLB} {gs : Frames}
end
section
variable {P : Program} {B : Nat} {w0 : World} {gh : List Value} {ops : Array Oper}
end
section
variable {P : Program} {B : Nat} {w0 : World} {T : Tab} {n : Nat} {e : Env} {h : List XLB} {gs : Frames} {K : XQ} {c : Code}
def lowsB (m : Nat) : Env→Bool
 | []=>true
 | x :: r=>match lowB m x.2 with
  | true=>lowsB m r
  | false=>false
theorem memN_iff {d : Nat} : ∀ {ds : List Nat},memN d ds = true↔d ∈ ds
 | []=>by simp [memN]
 | x :: r=>by
  simp only [memN,List.mem_cons]
  cases hb : Nat.beq x d with
  | true=>simp [(Nat.eq_of_beq_eq_true hb).symm]
  | false=>
   have hne : ¬ d = x:=fun e=>by subst e; simp at hb
   simp [hne,memN_iff (ds:=r)]
theorem dropE_at : ∀ {e : Env} {ds : List Nat} {x : Nat × XV},x ∈ dropE ds e→look e x.1 = x.2∧x.1 ∉ ds
 | [],ds,x,h=>by simp [dropE] at h
 | y :: r,ds,x,h=>by
  simp only [dropE] at h
  cases hm : memN y.1 ds with
  | true=>
   rw [hm] at h
   obtain ⟨h1,h2⟩:=dropE_at h
   have hne : y.1 ≠ x.1:=fun e=>h2 (e ▸ memN_iff.1 hm)
   exact ⟨(look_ne r y.2 hne).trans h1,h2⟩
  | false=>
   rw [hm] at h
   rcases List.mem_cons.1 h with rfl | h
   ·exact ⟨look_same r x.1 x.2,fun hx=>by rw [memN_iff.2 hx] at hm; cases hm⟩
   ·obtain ⟨h1,h2⟩:=dropE_at h
    have hne : y.1 ≠ x.1:=fun e=>h2 (e ▸ List.mem_cons_self)
    exact ⟨(look_ne r y.2 hne).trans h1,fun hx=>h2 (List.mem_cons_of_mem _ hx)⟩
theorem leEnv_of {m : Nat} {e : Env} : ∀ {e' : Env},(∀ x ∈ e',LeV (lowX m (look e x.1)) x.2)→LeEnv m e e'
 | [],_=>trivial
 | x :: r,h=>⟨h x (by simp),leEnv_of fun y hy=>h y (by simp [hy])⟩
theorem lowsB_mem {m : Nat} : ∀ {e : Env},lowsB m e = true→∀ x ∈ e,lowB m x.2 = true
 | [],_,x,hx=>by simp at hx
 | y :: r,h,x,hx=>by
  simp only [lowsB] at h
  split at h
  ·rename_i hy
   rcases List.mem_cons.1 hx with rfl | hx
   ·exact hy
   ·exact lowsB_mem h x hx
  ·cases h
theorem leEnv_mem {m : Nat} {e : Env} : ∀ {e' : Env},LeEnv m e e'→∀ x ∈ e',LeV (lowX m (look e x.1)) x.2
 | [],_,x,hx=>by simp at hx
 | y :: r,h,x,hx=>by
  rcases List.mem_cons.1 hx with rfl | hx
  ·exact h.1
  ·exact leEnv_mem h.2 x hx
theorem leEnv_app {m : Nat} {e1 us e : Env} {ds : List Nat} (h2 : dropE ds e1 = dropE ds e) (h3 : lowsB m (dropE ds e) = true) (h1 : LeEnv m e1 us) : LeEnv m e1 (us ++ dropE ds e):=leEnv_of fun x hx=>by
 rcases List.mem_append.1 hx with hx | hx
 ·exact leEnv_mem h1 x hx
 ·have h4:=lowX_id x.2 (lowsB_mem h3 x hx)
  rw [← h2] at hx
  rw [(dropE_at hx).1,h4]
  exact .rfl
def LeFz (e' : Env) (h' : List XLB) (gs' : Frames) : List Nat→Env→List XLB→Frames→Prop
 | [],e,h,gs=>LeX e h gs e' h' gs'
 | j :: js,e,h,gs=>frzK e h gs j fun e1 h1 gs1=>LeFz e' h' gs' js e1 h1 gs1
theorem LeFz.sle {e' : Env} {h' : List XLB} {gs' : Frames} (gh : List Value) : ∀ {js : List Nat} {e : Env} {h : List XLB} {gs : Frames},LeFz e' h' gs' js e h gs→SLe B w0 gh (xst n e h gs) (xst n e' h' gs')
 | [],e,h,gs,hh=>LeX.sle hh gh
 | j :: js,e,h,gs,hh=>by
  obtain ⟨e1,h1,g1,h2,h3⟩:=frzK_ok (n:=n) (B:=B) (w0:=w0) hh
  exact (h2 gh).trans (LeFz.sle gh h3)
theorem XT.cut (O : TabOk P T) {Y : Type} (ds : List Nat) (us : Y→Env) (hs : Y→List (Nat × XLB)) (r : Y→Prop)
  (ha : X P B w0 T n c e h gs fun ex e1 h1 g1=>match ex with
   | .normal=>∃ y,r y∧∃ js,LeFz (us y ++ dropE ds e) (setsH h (hs y)) gs js e1 h1 g1
   | ex=>K ex e1 h1 g1)
  (hb : ∀ y,r y→forceE (us y ++ dropE ds e) fun e'=>forceH (setsH h (hs y)) fun h'=>K .normal e' h' gs) : XT P B w0 n c e h gs K:=⟨fun gh Q hq ρ a w hr=>by
 refine wp_mono ((X_ok O ha).ok gh (fun ex σ=>match ex with
  | .normal=>∃ σ',SLe B w0 gh σ σ'∧Q .normal σ'
  | ex=>Q ex σ) (fun ex e1 h1 gs1 hk=>?_) ρ a w hr) fun ex a w ⟨σ,ρ,h1,h2⟩=>?_
 ·cases ex with
  | normal=>
   obtain ⟨y,hy,js,hl⟩:=hk
   have:=forceH_ok (k:=fun h'=>K .normal _ h' gs) (forceE_ok (k:=fun e'=>forceH (setsH h (hs y)) fun h'=>K .normal e' h' gs) (hb y hy))
   exact ⟨_,hl.sle gh,hq _ _ _ _ this⟩
  | _=>exact hq _ _ _ _ hk
 ·cases ex with
  | normal=>
   obtain ⟨σ',h3,h4⟩:=h1
   obtain ⟨ρ',h5⟩:=h3 ρ a w h2
   exact ⟨σ',ρ',h4,h5⟩
  | _=>exact ⟨σ,ρ,h1,h2⟩⟩
theorem XT.pass (O : TabOk P T) {a b : Code} (hx : X P B w0 T n a e h gs fun ex e h gs=>match ex with
  | .normal=>X P B w0 T n b e h gs K
  | ex=>K ex e h gs) : XT P B w0 n (.seq a b) e h gs K:=⟨fun gh Q hq=>by
 refine .seq ((X_ok O hx).ok gh _ fun ex e h gs h1=>?_)
 cases ex with
 | normal=>exact (X_ok O h1).ok gh Q hq
 | _=>exact hq _ _ _ _ h1⟩
end
end Go.Proofs.YtpgfhkbnngjegaaGreatDoor
