/- 'm[k] op= x' of a map: its three operations, one by one. No condition. -/
import Derived.Test.YtpgfhkbnngjegaaGreatDoorU23
import Derived.Test.YtpgfhkbnngjegaaGreatDoorU18
import Derived.Test.YtpgfhkbnngjegaaGreatDoorT28
import Derived.WideKeyEntry
namespace Go.Proofs.YtpgfhkbnngjegaaGreatDoor
open Go.RowKit
set_option linter.unusedVariables false
set_option linter.unusedSimpArgs false
theorem DnL.frz {C : Cx} {S : Nat→Prop} {B : Nat} (hS : ∀ k,C.S k→C.B ≤ k→k < C.w.heap.size→S k) (hB : B ≤ C.B) (ts : List TV) (us : List Value) (hp : PuL ts) (hf : FrL ts) (h : DnL C ts us) : DnZL C.w S B ts us:=by
 have h1:=DnL.fr (C:=C) (C':={ C with S:=fun k=>C.S k∧C.B ≤ k }) rfl (Nat.le_refl _) (fun k h1 h2 _=>⟨h1,h2⟩) ts us hf h
 exact DnL.toZ (C:={ C with S:=fun k=>C.S k∧C.B ≤ k }) (fun k hk hl=>hS k hk.1 hk.2 hl) hB ts us hp h1
section
variable {C C' : Cx} {j : Nat}
mutual
theorem zt_fr (hw : C'.w = C.w) (hn : C'.pres j) (hS : ∀ k,C.S k→C.B ≤ k→k < C.w.heap.size→C'.Z j k) (hB : C'.B ≤ C.B) : ∀ (t : TV) (u : Value),Pu t→Fr t→Dn C t u→Dn C' (zt j t) u
 | .any,_,_,_,_=>by simp [Dn,Go.Proofs.YtpgfhkbnngjegaaGreatDoor.zt]
 | .v x,u,_,_,h=>by simp only [Dn,Go.Proofs.YtpgfhkbnngjegaaGreatDoor.zt] at h ⊢; exact h
 | .nil_,u,_,_,h=>by simp only [Dn,Go.Proofs.YtpgfhkbnngjegaaGreatDoor.zt] at h ⊢; exact h
 | .agg ts,u,p,f,h=>by
  simp only [Dn,Go.Proofs.YtpgfhkbnngjegaaGreatDoor.zt,Pu,Fr] at h p f ⊢
  obtain ⟨vs,h1,h2⟩:=h
  exact ⟨vs,h1,ztL_fr hw hn hS hB ts vs p f h2⟩
 | .tup ts,u,p,f,h=>by
  simp only [Dn,Go.Proofs.YtpgfhkbnngjegaaGreatDoor.zt,Pu,Fr] at h p f ⊢
  obtain ⟨vs,h1,h2⟩:=h
  exact ⟨vs,h1,ztL_fr hw hn hS hB ts vs p f h2⟩
 | .fn g ts,u,p,f,h=>by
  have h1:=DnL.frz (C:=C) (S:=C'.Z j) (B:=C'.B) hS hB [.fn g ts] [u] (by simp only [PuL]; exact ⟨p,trivial⟩) (by simp only [FrL]; exact ⟨f,trivial⟩) (DnL.cons h DnL.nil)
  simp only [Go.Proofs.YtpgfhkbnngjegaaGreatDoor.zt]
  simp only [Dn,hw]
  simp only [DnZL] at h1
  obtain ⟨u',us',e,h2,_⟩:=h1
  injection e with e
  subst e
  exact ⟨hn,h2⟩
 | .sl b els,u,p,f,h=>by
  have h1:=DnL.frz (C:=C) (S:=C'.Z j) (B:=C'.B) hS hB [.sl b els] [u] (by simp only [PuL]; exact ⟨p,trivial⟩) (by simp only [FrL]; exact ⟨f,trivial⟩) (DnL.cons h DnL.nil)
  simp only [Go.Proofs.YtpgfhkbnngjegaaGreatDoor.zt]
  simp only [Dn,hw]
  simp only [DnZL] at h1
  obtain ⟨u',us',e,h2,_⟩:=h1
  injection e with e
  subst e
  exact ⟨hn,h2⟩
 | .eptr _,u,_,f,_=>by simp only [Fr] at f
 | .ptr i off,u,p,_,_=>by simp only [Pu] at p
 | .row i,u,p,_,_=>by simp only [Pu] at p
 | .osl e sz els,u,p,_,_=>by simp only [Pu] at p
 | .z _ _,u,p,_,_=>by simp only [Pu] at p
 | .win _ _ _,u,p,_,_=>by simp only [Pu] at p
theorem ztL_fr (hw : C'.w = C.w) (hn : C'.pres j) (hS : ∀ k,C.S k→C.B ≤ k→k < C.w.heap.size→C'.Z j k) (hB : C'.B ≤ C.B) : ∀ (ts : List TV) (us : List Value),PuL ts→FrL ts→DnL C ts us→DnL C' (ztL j ts) us
 | [],us,_,_,h=>by simp only [DnL,ztL] at h ⊢; exact h
 | t :: ts,us,p,f,h=>by
  simp only [DnL,ztL,PuL,FrL] at h p f ⊢
  obtain ⟨u,us',h1,h2,h3⟩:=h
  exact ⟨u,us',h1,zt_fr hw hn hS hB t u p.1 f.1 h2,ztL_fr hw hn hS hB ts us' p.2 f.2 h3⟩
end
end
section
variable {P : Program} {B : Nat} {w0 : World} {T : Tab} {n : Nat} {e : Env} {h : List XLB} {gs : Frames} {K : XQ} {c : Code}
mutual
def uzX (i : Nat) : XV→XV
 | .z j t h=>match Nat.beq j i with
  | true=>.p t h
  | false=>.z j t h
 | .row j=>match Nat.beq j i with
  | true=>.any
  | false=>.row j
 | .ptr j off=>match Nat.beq j i with
  | true=>.any
  | false=>.ptr j off
 | .rp j k sz o=>match Nat.beq j i with
  | true=>.any
  | false=>.rp j k sz o
 | .win j k sz=>match Nat.beq j i with
  | true=>.any
  | false=>.win j k sz
 | .ag vs=>.ag (uzXL i vs)
 | .tu vs=>.tu (uzXL i vs)
 | .fu f vs=>.fu f (uzXL i vs)
 | .p t h=>.p t h
 | .any=>.any
 | .ow _ _ _ _=>.any
 | .pin u t h=>.pin u t h
def uzXL (i : Nat) : List XV→List XV
 | []=>[]
 | v :: vs=>uzX i v :: uzXL i vs
end
theorem nl_less {C C' : Cx} (hw : C'.w = C.w) (hB : C'.B = C.B) (hS : ∀ k,C.S k→C'.S k) (how : ∀ u e sz n xs,C'.ow u e sz n xs) : Keeps (C.less fun _=>false) C':=⟨fun k h1 h2=>⟨by rw [hw]; rfl,hS k h1,by rw [hw]; exact h2⟩,Nat.le_of_eq hB,fun j hj=>by simp [Cx.less] at hj,fun _ _ _ _ _ _=>how _ _ _ _ _,fun j k hj _ _=>by simp [Cx.less] at hj⟩
mutual
theorem uz_dn {C C' : Cx} {i : Nat} (hw : C'.w = C.w) (hB : C'.B = C.B) (hS : ∀ k,C.S k→C'.S k) (how : ∀ u e sz n xs,C'.ow u e sz n xs) (hZi : ∀ k,C.Z i k→C'.S k) (hl : ∀ j,j ≠ i→C.pres j→C'.pres j∧C'.ρ j = C.ρ j) (hZ : ∀ j k,j ≠ i→C.pres j→C.Z j k→C'.Z j k) : ∀ (v : XV) (u : Value),Dn C v.den u→Dn C' (uzX i v).den u
 | .p t hp,u,h=>by
  have:=Dn.kp (fun _=>false) t u (show Dn C t u from h)
  rw [hp.k] at this
  exact Dn.keep (nl_less hw hB hS how) _ _ this
 | .any,u,_=>by simp [uzX,XV.den,Dn]
 | .ow _ _ _ _,u,_=>by simp [uzX,XV.den,Dn]
 | .pin x t hn,u,h=>by simp only [uzX,XV.den,Dn] at h ⊢; exact h
 | .ag vs,u,h=>by
  simp only [uzX,XV.den,Dn] at h ⊢
  obtain ⟨us,h1,h2⟩:=h
  exact ⟨us,h1,uzL_dn hw hB hS how hZi hl hZ vs us h2⟩
 | .tu vs,u,h=>by
  simp only [uzX,XV.den,Dn] at h ⊢
  obtain ⟨us,h1,h2⟩:=h
  exact ⟨us,h1,uzL_dn hw hB hS how hZi hl hZ vs us h2⟩
 | .fu f vs,u,h=>by
  simp only [uzX,XV.den,Dn] at h ⊢
  obtain ⟨us,h1,h2⟩:=h
  exact ⟨us,h1,uzL_dn hw hB hS how hZi hl hZ vs us h2⟩
 | .z j t hp,u,h=>by
  simp only [uzX]
  simp only [XV.den,Dn] at h
  cases hb : Nat.beq j i with
  | true=>
   obtain rfl:=Nat.eq_of_beq_eq_true hb
   simp only [XV.den]
   have h2:=h.2
   rw [← hw] at h2
   exact DnZ.dn (C:=C') (fun k hk _=>hZi k hk) (Nat.le_of_eq hB) _ _ h2
  | false=>
   have hij:=Nat.ne_of_beq_eq_false hb
   simp only [XV.den,Dn]
   refine ⟨(hl j hij h.1).1,DnZ.keep (fun k hk hlt=>⟨fun _ _ _ e1=>by rw [hw]; exact e1,hZ j k hij h.1 hk,by rw [hw]; exact hlt⟩) (Nat.le_of_eq hB) t u h.2⟩
 | .row j,u,h=>by
  simp only [uzX]
  cases hb : Nat.beq j i with
  | true=>simp [XV.den,Dn]
  | false=>
   have hij:=Nat.ne_of_beq_eq_false hb
   simp only [XV.den,Dn] at h ⊢
   exact ⟨(hl j hij h.1).1,by rw [(hl j hij h.1).2]; exact h.2⟩
 | .ptr j off,u,h=>by
  simp only [uzX]
  cases hb : Nat.beq j i with
  | true=>simp [XV.den,Dn]
  | false=>
   have hij:=Nat.ne_of_beq_eq_false hb
   simp only [XV.den,Dn] at h ⊢
   obtain ⟨h1,g,h2,h3⟩:=h
   exact ⟨(hl j hij h1).1,g,by rw [(hl j hij h1).2]; exact h2,h3⟩
 | .rp j k sz o,u,h=>by
  simp only [uzX]
  cases hb : Nat.beq j i with
  | true=>simp [XV.den,Dn]
  | false=>
   have hij:=Nat.ne_of_beq_eq_false hb
   simp only [XV.den,Dn] at h ⊢
   obtain ⟨h1,g,h2,h3⟩:=h
   exact ⟨(hl j hij h1).1,g,by rw [(hl j hij h1).2]; exact h2,h3⟩
 | .win j k sz,u,h=>by
  simp only [uzX]
  cases hb : Nat.beq j i with
  | true=>simp [XV.den,Dn]
  | false=>
   have hij:=Nat.ne_of_beq_eq_false hb
   simp only [XV.den,Dn] at h ⊢
   obtain ⟨h1,g,n,c,h2,h3⟩:=h
   exact ⟨(hl j hij h1).1,g,n,c,by rw [(hl j hij h1).2]; exact h2,h3⟩
theorem uzL_dn {C C' : Cx} {i : Nat} (hw : C'.w = C.w) (hB : C'.B = C.B) (hS : ∀ k,C.S k→C'.S k) (how : ∀ u e sz n xs,C'.ow u e sz n xs) (hZi : ∀ k,C.Z i k→C'.S k) (hl : ∀ j,j ≠ i→C.pres j→C'.pres j∧C'.ρ j = C.ρ j) (hZ : ∀ j k,j ≠ i→C.pres j→C.Z j k→C'.Z j k) : ∀ (vs : List XV) (us : List Value),DnL C (XV.denL vs) us→DnL C' (XV.denL (uzXL i vs)) us
 | [],us,h=>by simp only [uzXL,XV.denL,DnL] at h ⊢; exact h
 | v :: vs,us,h=>by
  simp only [uzXL,XV.denL,DnL] at h ⊢
  obtain ⟨u,us',h1,h2,h3⟩:=h
  exact ⟨u,us',h1,uz_dn hw hB hS how hZi hl hZ v u h2,uzL_dn hw hB hS how hZi hl hZ vs us' h3⟩
end
section
variable {P : Program} {B : Nat} {w0 : World} {T : Tab} {n : Nat} {e : Env} {h : List XLB} {gs : Frames} {K : XQ} {c : Code}
end
end
section
variable {P : Program} {B : Nat} {w0 : World} {n : Nat} {c : Code} {e : Env} {h : List XLB} {gs : Frames} {K : XQ}
end
section
variable {P : Program} {B : Nat} {w0 : World} {n : Nat} {c : Code} {e : Env} {h : List XLB} {gs : Frames} {K : XQ}
end
end Go.Proofs.YtpgfhkbnngjegaaGreatDoor

namespace Go.Proofs.YtpgfhkbnngjegaaGreatDoor
open Go.RowKit
set_option linter.unusedVariables false
set_option linter.unusedSimpArgs false
section
variable {P : Program} {B : Nat} {w0 : World} {T : Tab} {n : Nat} {c : Code} {e : Env} {h : List XLB} {gs : Frames} {K : XQ}
theorem hset_den {i : Nat} {b : XLB} (hb : b.den = (hget h i).den) : (h.set i b).map XLB.den = h.map XLB.den:=by
 induction h generalizing i with
 | nil=>rfl
 | cons x r ih=>
  cases i with
  | zero=>simp only [List.set_cons_zero,List.map_cons]; rw [hb]; rfl
  | succ i=>simp only [List.set_cons_succ,List.map_cons]; rw [ih (i:=i) hb]
theorem XT.foc (i : Nat) {ty : TypeId} {sz : Nat} {els : List (List TV)} {hp : NlLL els} (pre : List (List TV)) (t : List TV) (post : List (List TV)) (hpr : NlLL pre) (ht : NlL t) (hpo : NlLL post) (hi : hget h i = .row ty sz els hp) (he : els = pre ++ t :: post)
  (hx : unpK t ht fun cs=>setK h i (.rowF ty sz pre hpr cs post hpo) fun h'=>XT P B w0 n c e h' gs K) : XT P B w0 n c e h gs K:=⟨fun gh Q hq=>by
 have hx:=setK_ok (k:=fun h'=>XT P B w0 n c e h' gs K) (unpK_ok (k:=fun cs=>setK h i (.rowF ty sz pre hpr cs post hpo) fun h'=>XT P B w0 n c e h' gs K) hx)
 have h1:=hx.ok gh Q hq
 have e1 : xst n e (h.set i (.rowF ty sz pre hpr (unp t ht) post hpo)) gs = xst n e h gs:=by
  simp only [xst]
  rw [hset_den (by rw [hi]; simp only [XLB.den,unp_den,he])]
 rwa [e1] at h1⟩
theorem XT.freeze (j : Nat) (hx : frzK e h gs j fun e' h' gs'=>XT P B w0 n c e' h' gs' K) : XT P B w0 n c e h gs K:=⟨fun gh Q hq=>by
 obtain ⟨e',h',gs',hs,hx⟩:=frzK_ok (n:=n) (B:=B) (w0:=w0) hx
 exact TW.le (hx.ok gh Q hq) (hs gh)⟩
theorem XT.loopN (O : TabOk P T) {Y : Type} (ds : List Nat) (us : Y→Env) (hs : Y→List (Nat × XLB)) (nb : Y→List XLB) (inv : Y→Prop) (μ : Y→Nat) (y0 : Y) (h0 : inv y0) (hle : LeX e h gs (us y0 ++ dropE ds e) (setsH h (hs y0) ++ nb y0) gs)
  (round : ∀ y,inv y→forceE (us y ++ dropE ds e) fun e'=>forceH (setsH h (hs y) ++ nb y) fun h'=>X P B w0 T n c e' h' gs fun ex e1 h1 g1=>match ex with
   | .normal=>∃ z,inv z∧μ z < μ y∧LeX e1 h1 g1 (us z ++ dropE ds e) (setsH h (hs z) ++ nb z) gs
   | ex=>K ex e1 h1 g1) : XT P B w0 n (.loop c) e h gs K:=⟨fun gh Q hq=>by
 refine TW.le (TW.loop (fun m σ=>∃ y,inv y∧μ y = m∧σ = xst n (us y ++ dropE ds e) (setsH h (hs y) ++ nb y) gs) (μ y0) ⟨y0,h0,rfl,rfl⟩ fun m σ ⟨y,h1,h2,h3⟩=>?_) (hle.sle gh)
 subst h3
 refine (X_ok O (forceH_ok (k:=fun h'=>X P B w0 T n c (us y ++ dropE ds e) h' gs _) (forceE_ok (k:=fun e'=>forceH (setsH h (hs y) ++ nb y) fun h'=>X P B w0 T n c e' h' gs _) (round y h1)))).ok gh _ fun ex e1 h1 g1 hk=>?_
 cases ex with
 | normal=>
  obtain ⟨z,h4,h5,h6⟩:=hk
  exact ⟨μ z,_,h2 ▸ h5,⟨z,h4,rfl,rfl⟩,h6.sle gh⟩
 | _=>exact hq _ _ _ _ hk⟩
end
end Go.Proofs.YtpgfhkbnngjegaaGreatDoor

namespace Go.Proofs.YtpgfhkbnngjegaaGreatDoor
open Go.RowKit
set_option linter.unusedVariables false
set_option linter.unusedSimpArgs false
structure Dfn where
 n : ByteArray
 t : Int
 k : Bool
 nn : Bool
structure Tbl where
 n : ByteArray
 c : List Dfn
 r : List (List Val)
def vlC (v : Val) : List TV:=[.v (.int .i64 v.k),.v (.int .i64 v.n),.v (.string v.t)]
def dfC (d : Dfn) : List TV:=[.v (.string d.n),.v (.int .i64 d.t),.v (.bool d.k),.v (.bool d.nn)]
def rwC (b : Bool) (r : List Val) : List TV:=[.sl b (r.map vlC)]
def tbC (b b2 b3 : Bool) (t : Tbl) : List TV:=[.v (.string t.n),.sl b (t.c.map dfC),.sl b2 (t.r.map (rwC b3))]
def tbT (b b2 b3 : Bool) (t : Tbl) : TV:=.agg (tbC b b2 b3 t)
def stT (b b1 b2 b3 : Bool) (s : List Tbl) : TV:=.agg [.sl b (s.map (tbC b1 b2 b3))]
theorem nl_vl (l : List Val) : NlLL (l.map vlC):=.map fun x _=>.cons (nlv _) (.cons (nlv _) (.cons (nlv _) .nil))
theorem nl_dc (l : List Dfn) : NlLL (l.map dfC):=.map fun x _=>.cons (nlv _) (.cons (nlv _) (.cons (nlv _) (.cons (nlv _) .nil)))
theorem nl_rw (b : Bool) (l : List (List Val)) : NlLL (l.map (rwC b)):=.map fun x _=>.cons (nl_vl _).sl .nil
theorem nl_tb (b b2 b3 : Bool) (l : List Tbl) : NlLL (l.map (tbC b b2 b3)):=.map fun x _=>.cons (nlv _) (.cons (nl_dc _).sl (.cons (nl_rw _ _).sl .nil))
theorem nl_tb1 (b b2 b3 : Bool) (t : Tbl) : NlL (tbC b b2 b3 t):=.cons (nlv _) (.cons (nl_dc _).sl (.cons (nl_rw _ _).sl .nil))
theorem untag_vl (l : List Val) : untagLL (l.map vlC) = l.map vlC:=by rw [untagLL_map]; rfl
theorem untag_dc (l : List Dfn) : untagLL (l.map dfC) = l.map dfC:=by rw [untagLL_map]; rfl
theorem untag_rw (b : Bool) (l : List (List Val)) : untagLL (l.map (rwC b)) = l.map (rwC false):=by
 rw [untagLL_map]
 exact List.map_congr_left fun s _=>by simp only [rwC,untagL,untag,untag_vl]
theorem untag_tb (b b2 b3 : Bool) (l : List Tbl) : untagLL (l.map (tbC b b2 b3)) = l.map (tbC false false false):=by
 rw [untagLL_map]
 exact List.map_congr_left fun s _=>by simp only [tbC,untagL,untag,untag_dc,untag_rw]
theorem pu_vl (l : List Val) : PuLL (l.map vlC):=PuLL_map _ _ fun x _=>by simp [vlC,PuL,Pu]
theorem pu_dc (l : List Dfn) : PuLL (l.map dfC):=PuLL_map _ _ fun x _=>by simp [dfC,PuL,Pu]
theorem pu_rw (b : Bool) (l : List (List Val)) : PuLL (l.map (rwC b)):=PuLL_map _ _ fun s _=>by simp [rwC,PuL,Pu,pu_vl]
theorem pu_tb (b b2 b3 : Bool) (l : List Tbl) : PuLL (l.map (tbC b b2 b3)):=PuLL_map _ _ fun s _=>by simp [tbC,PuL,Pu,pu_dc,pu_rw]
theorem fr_vl (l : List Val) : FrLL (l.map vlC):=FrLL_map _ _ fun x _=>by simp [vlC,FrL,Fr]
theorem fr_dc (l : List Dfn) : FrLL (l.map dfC):=FrLL_map _ _ fun x _=>by simp [dfC,FrL,Fr]
theorem fr_rw (l : List (List Val)) : FrLL (l.map (rwC true)):=FrLL_map _ _ fun s _=>by simp [rwC,FrL,Fr,fr_vl]
theorem fr_tb (l : List Tbl) : FrLL (l.map (tbC true true true)):=FrLL_map _ _ fun s _=>by simp [tbC,FrL,Fr,fr_dc,fr_rw]
theorem vl_len (l : List Val) : ∀ x ∈ l.map vlC,x.length = 3:=fun x hx=>by obtain ⟨s,_,rfl⟩:=List.mem_map.1 hx; rfl
theorem vl_one (l : List Val) : ∀ x ∈ l.map vlC,x.all TV.one = true:=fun x hx=>by obtain ⟨s,_,rfl⟩:=List.mem_map.1 hx; rfl
theorem dc_len (l : List Dfn) : ∀ x ∈ l.map dfC,x.length = 4:=fun x hx=>by obtain ⟨s,_,rfl⟩:=List.mem_map.1 hx; rfl
theorem dc_one (l : List Dfn) : ∀ x ∈ l.map dfC,x.all TV.one = true:=fun x hx=>by obtain ⟨s,_,rfl⟩:=List.mem_map.1 hx; rfl
theorem rw_len (b : Bool) (l : List (List Val)) : ∀ x ∈ l.map (rwC b),x.length = 1:=fun x hx=>by obtain ⟨s,_,rfl⟩:=List.mem_map.1 hx; rfl
theorem rw_one (b : Bool) (l : List (List Val)) : ∀ x ∈ l.map (rwC b),x.all TV.one = true:=fun x hx=>by obtain ⟨s,_,rfl⟩:=List.mem_map.1 hx; rfl
theorem tb_len (b b2 b3 : Bool) (l : List Tbl) : ∀ x ∈ l.map (tbC b b2 b3),x.length = 3:=fun x hx=>by obtain ⟨s,_,rfl⟩:=List.mem_map.1 hx; rfl
theorem tb_one (b b2 b3 : Bool) (l : List Tbl) : ∀ x ∈ l.map (tbC b b2 b3),x.all TV.one = true:=fun x hx=>by obtain ⟨s,_,rfl⟩:=List.mem_map.1 hx; rfl
structure Dfn.In (d : Dfn) : Prop where
 n : d.n.size ≤ 140737488355328
 t : I64 d.t
structure Tbl.In (t : Tbl) : Prop where
 n : t.n.size ≤ 140737488355328
 c : ∀ d ∈ t.c,d.In
 cn : t.c.length ≤ 100000
 r : ∀ r ∈ t.r,r.length ≤ 100000∧∀ v ∈ r,v.Ok
 rn : t.r.length ≤ 100000
def ixP {α : Type} (p : α→Bool) (l : List α) : Int:=match l.findIdx? p with
 | some i=>(i : Int)
 | none=>-1
def noP {α : Type} (p : α→Bool) (l : List α) (k : Nat) : Prop:=∀ (j : Nat) (x : α),j < k→l[j]? = some x→p x = false
section
variable {α : Type} {p : α→Bool} {l : List α} {k : Nat} {x : α}
theorem noP_0 : noP p l 0:=fun j x hj=>by omega
theorem noP_s (h : noP p l k) (hx : l[k]? = some x) (hp : p x = false) : noP p l (k + 1):=fun j y hj hy=>by
 rcases Nat.lt_or_ge j k with h1 | h1
 ·exact h j y h1 hy
 ·obtain rfl : j = k:=by omega
  rw [hx] at hy
  injection hy with hy
  rw [← hy]; exact hp
theorem ixP_t (h : noP p l k) (hx : l[k]? = some x) (hp : p x = true) : ixP p l = (k : Int):=by
 unfold ixP
 obtain ⟨hk,rfl⟩:=List.getElem?_eq_some_iff.1 hx
 have : l.findIdx? p = some k:=List.findIdx?_eq_some_iff_getElem.2 ⟨hk,hp,fun j hj=>by
  have:=h j _ hj (List.getElem?_eq_getElem (by omega))
  simp [this]⟩
 rw [this]
theorem ixP_f (h : noP p l k) (hk : l.length ≤ k) : ixP p l = -1:=by
 unfold ixP
 have : l.findIdx? p = none:=List.findIdx?_eq_none_iff.2 fun x hx=>by
  obtain ⟨j,hj,rfl⟩:=List.getElem_of_mem hx
  exact h j _ (by omega) (List.getElem?_eq_getElem hj)
 rw [this]
theorem ixP_ge (p : α→Bool) (l : List α) : -1 ≤ ixP p l∧ixP p l < l.length:=by
 unfold ixP
 cases h : l.findIdx? p with
 | none=>simp; omega
 | some i=>
  obtain ⟨hi,_⟩:=List.findIdx?_eq_some_iff_getElem.1 h
  simp
  omega
end
theorem noP.mono {α : Type} {p : α→Bool} {l : List α} {k k2 : Nat} (h : noP p l k2) (hk : k ≤ k2) : noP p l k:=fun j x hj hx=>h j x (by omega) hx
def keyI (c : List Dfn) : Int:=ixP (fun d=>d.k) c
end Go.Proofs.YtpgfhkbnngjegaaGreatDoor

namespace Go.Proofs.YtpgfhkbnngjegaaGreatDoor
open Go.RowKit
set_option linter.unusedVariables false
set_option linter.unusedSimpArgs false
theorem qw30 {p : Prop} (h : p:=by
 refine ⟨?_,?_,?_⟩
 ·refine leEnv_app (by kernel_rfl) (by kernel_rfl) ?_
  repeat ((conv=>whnf); first | exact True.intro | refine ⟨.rfl,?_⟩ | refine ⟨.any,?_⟩ | refine ⟨.nil,?_⟩ | refine ⟨.int (by first | rfl | omega | (simp only [wrs]; omega)),?_⟩)
 ·repeat (first | exact LeVs.nil | ((conv=>whnf); first | exact True.intro | exact .none | exact .ext | exact .row rfl | refine .cells ?_ | refine ⟨_,_,rfl,.rfl,?_⟩ | refine ⟨_,_,rfl,.any,?_⟩ | refine ⟨_,_,rfl,.nil,?_⟩ | refine ⟨_,_,rfl,.int (by first | rfl | omega | (simp only [wrs]; omega)),?_⟩ | refine ⟨?_,?_⟩))
  done
 ·exact LeFr.nil) : p:=h
theorem qw31 {p : Prop} (h : p:=by
 conv=>whnf
 refine FinG.mk none ?_ zqR
 simp only [outs,zqL,fr_by1]
 rw [rowB_f hv1 hx1 (by simp_all [fitB,checkN_0]; done)]) : p:=h
theorem qw32 {p : Prop} (h : p:=by
 conv=>whnf
 refine bF zqS ?_
 conv=>whnf
 refine bF zqS ?_
 conv=>whnf
 refine bF zqS ?_
 conv=>whnf
 refine bF zqS ?_
 conv=>whnf
 refine ⟨(k + 1),⟨by omega,fitP_s hP hv1 hx1 (by simp_all [fitB,checkN_0]; done)⟩,by omega,?_⟩
 exact qw30) : p:=h
theorem qw33 {p : Prop} (h : p:=by
 conv=>whnf
 refine bT zqS ?_
 conv=>whnf
 refine bT zqS ?_
 conv=>whnf
 refine bT zqS ?_
 conv=>whnf
 refine bT zqS ?_
 conv=>whnf
 refine bT zqS ?_
 conv=>whnf
 refine bT zqS ?_
 conv=>whnf
 refine bT zqS ?_
 exact qw31) : p:=h
theorem qw34 {p : Prop} (h : p:=by
 conv=>whnf
 refine bT zqS ?_
 conv=>whnf
 refine bF zqS ?_
 conv=>whnf
 refine bT zqS ?_
 conv=>whnf
 refine bF zqS ?_
 exact qw31) : p:=h
theorem qw35 {p : Prop} (h : p:=by
 refine ⟨?_,?_,?_⟩
 ·refine leEnv_app (by kernel_rfl) (by kernel_rfl) ?_
  repeat ((conv=>whnf); first | exact True.intro | refine ⟨.rfl,?_⟩ | refine ⟨.any,?_⟩ | refine ⟨.nil,?_⟩ | refine ⟨.int (by first | rfl | omega | (simp only [wrs]; omega)),?_⟩)
 ·repeat (first | exact LeVs.nil | ((conv=>whnf); first | exact True.intro | exact .none | exact .ext | exact .row rfl | refine .cells ?_ | refine ⟨_,_,rfl,.rfl,?_⟩ | refine ⟨_,_,rfl,.any,?_⟩ | refine ⟨_,_,rfl,.nil,?_⟩ | refine ⟨_,_,rfl,.int (by first | rfl | omega | (simp only [wrs]; omega)),?_⟩ | refine ⟨?_,?_⟩))
  done
 ·exact LeFr.same (by kernel_rfl)) : p:=h
theorem qw36 {p : Prop} (h : p:=by
 conv=>whnf
 refine bF zqS ?_
 conv=>whnf
 refine bT zqS ?_
 conv=>whnf
 refine bF zqS ?_
 conv=>whnf
 refine bS (fun hc7=>?_) (fun hc7=>?_)
 ·try simp only [bls] at hc7
  exact qw31
 ·try simp only [bls] at hc7
  conv=>whnf
  refine ⟨(k + 1),⟨by omega,fitP_s hP hv1 hx1 (by simp_all [fitB,checkN_0]; done)⟩,by omega,?_⟩
  exact qw30) : p:=h
theorem qw37 {p : Prop} (h : p:=by
 conv=>whnf
 refine bT zqS ?_
 conv=>whnf
 refine bT zqS ?_
 conv=>whnf
 refine bT zqS ?_
 conv=>whnf
 refine bT zqS ?_
 conv=>whnf
 refine bT zqS ?_
 conv=>whnf
 refine bT zqS ?_
 exact qw34) : p:=h
theorem qw38 {p : Prop} (h : p:=by
 try simp only [bls] at hc2
 conv=>whnf
 refine FinG.mk none ?_ zqR
 simp only [outs,zqL,fr_by1]
 rw [rowB_t (by omega) hP (by omega)]) : p:=h
theorem qw39 {p : Prop} (h : p:=by
 try simp only [bls] at hc1
 conv=>whnf
 refine FinG.mk none ?_ zqR
 simp only [outs,zqL,fr_by1]
 rw [rowB_n (by assumption)]) : p:=h
set_option maxRecDepth 20000
set_option maxRecDepth 20000 in
theorem key_T (b b2 b3 : Bool) (t : Tbl) (hn : t.c.length ≤ 100000) : XMeets Tryz.prog 14 [tbT b b2 b3 t] (.tu [.p (.v (.int .i64 (max (keyI t.c) 0))) (nlv _),.p (.v (.bool (decide (0 ≤ keyI t.c)))) (nlv _)]):=by
 refine XMeets.of_X tabX_ok (avs:=[.ag [.p (.v (.string (t.n))) (nlv _),.p (.sl false (t.c.map dfC)) (nl_dc _).sl,.p (.sl false (t.r.map (rwC false))) (nl_rw _ _).sl]]) [(0,.ag [.p (.v (.string (t.n))) (nlv _),.p (.sl false (t.c.map dfC)) (nl_dc _).sl,.p (.sl false (t.r.map (rwC false))) (nl_rw _ _).sl])] (by kernel_rfl) Tryz.func14 rfl (by simp [PuL,Pu,tbT,stT,tbC,rwC,vlC,dfC,pu_vl,pu_dc,pu_rw,pu_tb]) (by simp only [untagL,untag,tbT,stT,tbC,rwC,vlC,dfC,untag_vl,untag_dc,untag_rw,untag_tb]; rfl) rfl rfl ?_
 intro B w0
 conv=>whnf
 refine .inl ?_
 conv=>whnf
 refine InlG.mk (by kernel_rfl) Tryz.func60 rfl (Nat.le_of_ble_eq_true rfl) (XT.of tabX_ok ?_)
 conv=>whnf
 refine XT.loop tabX_ok (Y:=Nat) [4,5,8,9,10,11,12,13,14,15,16,17,18] (fun k=>[(8,.p (.v (.int .i64 (k))) (nlv _))]) (fun k=>[]) (fun k=>k ≤ t.c.length∧noP (fun d=>d.k) t.c k) (fun k=>t.c.length - k) 0 ⟨Nat.zero_le _,noP_0⟩ ?_ ?_
 ·exact qw35
 ·rintro k ⟨hk,hP⟩
  conv=>whnf
  refine bS (fun hc1=>?_) (fun hc1=>?_)
  ·try simp only [bls] at hc1
   conv=>whnf
   refine IdxG.map (l:=t.c) _ rfl (by first | omega | (simp only [List.length_map] at *; omega)) ?_; intro x1 hx1 hnx1
   conv=>whnf
   refine ⟨rfl,?_⟩
   conv=>whnf
   refine .inl ?_
   conv=>whnf
   refine InlG.mk (by kernel_rfl) Tryz.func61 rfl (Nat.le_of_ble_eq_true rfl) (XT.of tabX_ok ?_)
   conv=>whnf
   refine ⟨.inr rfl,?_⟩
   conv=>whnf
   refine bS (fun hc2=>?_) (fun hc2=>?_)
   ·try simp only [bls] at hc2
    conv=>whnf
    refine ⟨.inr rfl,?_⟩
    conv=>whnf
    refine FinG.mk none ?_ zqR
    simp only [outs,zqL,fr_by1]
    have hX : keyI t.c = (k : Int):=ixP_t hP hx1 (by first | assumption | (simp only [bsEq_t,bsEq_f]; assumption) | simp_all)
    rw [hX]
    simp
   ·try simp only [bls] at hc2
    conv=>whnf
    refine ⟨(k + 1),⟨by omega,noP_s hP hx1 (by first | assumption | (simp only [bsEq_t,bsEq_f]; assumption) | simp_all)⟩,by omega,?_⟩
    exact qw35
  ·try simp only [bls] at hc1
   conv=>whnf
   refine ⟨.inr rfl,?_⟩
   conv=>whnf
   refine FinG.mk none ?_ zqR
   simp only [outs,zqL,fr_by1]
   have hX : keyI t.c = -1:=ixP_f hP (by omega)
   rw [hX]
   simp
set_option maxRecDepth 20000 in
theorem key12_T (b b2 b3 : Bool) (t : Tbl) (hn : t.c.length ≤ 100000) : XMeets Tryz.prog 15 [tbT b b2 b3 t] (.p (.v (.int .i64 (keyI t.c))) (nlv _)):=by
 refine XMeets.of_X tabX_ok (avs:=[.ag [.p (.v (.string (t.n))) (nlv _),.p (.sl false (t.c.map dfC)) (nl_dc _).sl,.p (.sl false (t.r.map (rwC false))) (nl_rw _ _).sl]]) [(0,.ag [.p (.v (.string (t.n))) (nlv _),.p (.sl false (t.c.map dfC)) (nl_dc _).sl,.p (.sl false (t.r.map (rwC false))) (nl_rw _ _).sl])] (by kernel_rfl) Tryz.func15 rfl (by simp [PuL,Pu,tbT,stT,tbC,rwC,vlC,dfC,pu_vl,pu_dc,pu_rw,pu_tb]) (by simp only [untagL,untag,tbT,stT,tbC,rwC,vlC,dfC,untag_vl,untag_dc,untag_rw,untag_tb]; rfl) rfl rfl ?_
 intro B w0
 conv=>whnf
 refine XT.loop tabX_ok (Y:=Nat) [2,3,4,8,9,10,11,12,13,14,15,16] (fun k=>[(8,.p (.v (.int .i64 (k))) (nlv _))]) (fun k=>[]) (fun k=>k ≤ t.c.length∧noP (fun d=>d.k) t.c k) (fun k=>t.c.length - k) 0 ⟨Nat.zero_le _,noP_0⟩ ?_ ?_
 ·exact qw30
 ·rintro k ⟨hk,hP⟩
  conv=>whnf
  refine bS (fun hc1=>?_) (fun hc1=>?_)
  ·try simp only [bls] at hc1
   conv=>whnf
   refine IdxG.map (l:=t.c) _ rfl (by first | omega | (simp only [List.length_map] at *; omega)) ?_; intro x1 hx1 hnx1
   conv=>whnf
   refine ⟨rfl,?_⟩
   conv=>whnf
   refine bS (fun hc2=>?_) (fun hc2=>?_)
   ·try simp only [bls] at hc2
    conv=>whnf
    refine FinG.mk none ?_ zqR
    simp only [outs,zqL,fr_by1]
    have hX : keyI t.c = (k : Int):=ixP_t hP hx1 (by first | assumption | (simp only [bsEq_t,bsEq_f]; assumption) | simp_all)
    rw [hX]
   ·try simp only [bls] at hc2
    conv=>whnf
    refine ⟨(k + 1),⟨by omega,noP_s hP hx1 (by first | assumption | (simp only [bsEq_t,bsEq_f]; assumption) | simp_all)⟩,by omega,?_⟩
    exact qw30
  ·try simp only [bls] at hc1
   conv=>whnf
   refine FinG.mk none ?_ zqR
   simp only [outs,zqL,fr_by1]
   have hX : keyI t.c = -1:=ixP_f hP (by omega)
   rw [hX]
/-- May a value stand in a column? -/
def fitB (d : Dfn) (v : Val) : Bool:=rightB v && (decide (v.k = d.t) || (decide (v.k = 1) && !d.k && !d.nn))
def rowB (c : List Dfn) (r : List Val) : Bool:=decide (r.length = c.length) && (r.zip c).all fun x=>fitB x.2 x.1
def fitP (c : List Dfn) (r : List Val) (k : Nat) : Prop:=∀ (j : Nat) (v : Val) (d : Dfn),j < k→r[j]? = some v→c[j]? = some d→fitB d v = true
theorem fitP_0 (c : List Dfn) (r : List Val) : fitP c r 0:=fun j v d h=>by omega
theorem fitP_s {c : List Dfn} {r : List Val} {k : Nat} {v : Val} {d : Dfn} (h : fitP c r k) (hv : r[k]? = some v) (hd : c[k]? = some d) (hf : fitB d v = true) : fitP c r (k + 1):=fun j v' d' hj hv' hd'=>by
  rcases Nat.lt_or_ge j k with h1 | h1
  · exact h j v' d' h1 hv' hd'
  · obtain rfl : j = k:=by omega
    rw [hv] at hv'; rw [hd] at hd'
    injection hv' with hv'; injection hd' with hd'
    rw [← hv',← hd']; exact hf
theorem rowB_n {c : List Dfn} {r : List Val} (h : ¬ (r.length : Int) = c.length) : rowB c r = false:=by
  unfold rowB
  rw [decide_eq_false (by omega),Bool.false_and]
theorem rowB_t {c : List Dfn} {r : List Val} {k : Nat} (hl : (r.length : Int) = c.length) (h : fitP c r k) (hk : r.length ≤ k) : rowB c r = true:=by
  unfold rowB
  rw [decide_eq_true (by omega),Bool.true_and,List.all_eq_true]
  intro x hx
  obtain ⟨j,hj,rfl⟩:=List.getElem_of_mem hx
  rw [List.length_zip] at hj
  rw [List.getElem_zip]
  exact h j _ _ (by omega) (List.getElem?_eq_getElem (by omega)) (List.getElem?_eq_getElem (by omega))
theorem rowB_f {c : List Dfn} {r : List Val} {k : Nat} {v : Val} {d : Dfn} (hv : r[k]? = some v) (hd : c[k]? = some d) (hf : fitB d v = false) : rowB c r = false:=by
  unfold rowB
  have : ((r.zip c).all fun x=>fitB x.2 x.1) = false:=by
    rw [List.all_eq_false]
    obtain ⟨h1,rfl⟩:=List.getElem?_eq_some_iff.1 hv
    obtain ⟨h2,rfl⟩:=List.getElem?_eq_some_iff.1 hd
    exact ⟨(r[k],c[k]),by rw [← List.getElem_zip (h:=by rw [List.length_zip]; omega)]; exact List.getElem_mem _,by simp [hf]⟩
  rw [this,Bool.and_false]
theorem rowB_g {c : List Dfn} {r : List Val} {k : Nat} {v : Val} (hl : (r.length : Int) = c.length) (hv : r[k]? = some v) (hf : rightB v = false) : rowB c r = false:=by
  have h1:=(List.getElem?_eq_some_iff.1 hv).1
  exact rowB_f hv (List.getElem?_eq_getElem (show k < c.length by omega)) (by simp [fitB,hf])
set_option maxHeartbeats 4000000 in
set_option maxRecDepth 20000 in
theorem fits_T (b b2 b3 b4 : Bool) (t : Tbl) (r : List Val) (hn : t.c.length ≤ 100000) (hrn : r.length ≤ 100000) : XMeets Tryz.prog 58 [tbT b b2 b3 t,.sl b4 (r.map vlC)] (.p (.v (.bool (rowB t.c r))) (nlv _)):=by
 refine XMeets.of_X tabX_ok (avs:=[.ag [.p (.v (.string (t.n))) (nlv _),.p (.sl false (t.c.map dfC)) (nl_dc _).sl,.p (.sl false (t.r.map (rwC false))) (nl_rw _ _).sl],.p (.sl false (r.map vlC)) (nl_vl _).sl]) [(0,.ag [.p (.v (.string (t.n))) (nlv _),.p (.sl false (t.c.map dfC)) (nl_dc _).sl,.p (.sl false (t.r.map (rwC false))) (nl_rw _ _).sl]),(1,.p (.sl false (r.map vlC)) (nl_vl _).sl)] (by kernel_rfl) Tryz.func58 rfl (by simp [PuL,Pu,tbT,stT,tbC,rwC,vlC,dfC,pu_vl,pu_dc,pu_rw,pu_tb]) (by simp only [untagL,untag,tbT,stT,tbC,rwC,vlC,dfC,untag_vl,untag_dc,untag_rw,untag_tb]; rfl) rfl rfl ?_
 intro B w0
 conv=>whnf
 refine bS (fun hc1=>?_) (fun hc1=>?_)
 ·exact qw39
 ·try simp only [bls] at hc1
  conv=>whnf
  refine XT.loop tabX_ok (Y:=Nat) [4,5,6,7,8,17,18,19,20,21,22,23,24,25,26,27,28,29,30,31,32,33,34,35,36,37,38,39,40,41,42,43,44,45,46,47,48,49,50,51,52,53,54] (fun k=>[(17,.p (.v (.int .i64 (k))) (nlv _))]) (fun k=>[]) (fun k=>k ≤ r.length∧fitP t.c r k) (fun k=>r.length - k) 0 ⟨Nat.zero_le _,fitP_0 _ _⟩ ?_ ?_
  ·exact qw30
  ·rintro k ⟨hk,hP⟩
   conv=>whnf
   refine bS (fun hc2=>?_) (fun hc2=>?_)
   ·try simp only [bls] at hc2
    conv=>whnf
    refine IdxG.map (l:=r) _ rfl (by first | omega | (simp only [List.length_map] at *; omega)) ?_; intro v1 hv1 hnv1
    conv=>whnf
    refine ⟨rfl,?_⟩
    conv=>whnf
    refine IdxG.map (l:=t.c) _ rfl (by first | omega | (simp only [List.length_map] at *; omega)) ?_; intro x1 hx1 hnx1
    conv=>whnf
    refine ⟨rfl,?_⟩
    conv=>whnf
    refine bS (fun hc3=>?_) (fun hc3=>?_)
    ·try simp only [bls] at hc3
     conv=>whnf
     refine bT zqS ?_
     conv=>whnf
     refine bT zqS ?_
     conv=>whnf
     refine bT zqS ?_
     conv=>whnf
     refine bS (fun hc4=>?_) (fun hc4=>?_)
     ·try simp only [bls] at hc4
      conv=>whnf
      refine bT zqS ?_
      conv=>whnf
      refine bT zqS ?_
      conv=>whnf
      refine bT zqS ?_
      conv=>whnf
      refine .ct ?_
      conv=>whnf
      refine CallG.mk (check_X _) rfl ?_
      conv=>whnf
      refine bS (fun hc5=>?_) (fun hc5=>?_)
      ·try simp only [bls] at hc5
       exact qw33
      ·try simp only [bls] at hc5
       conv=>whnf
       refine bF zqS ?_
       conv=>whnf
       refine bF zqS ?_
       conv=>whnf
       refine bF zqS ?_
       conv=>whnf
       refine bF zqS ?_
       conv=>whnf
       refine bF zqS ?_
       conv=>whnf
       refine bS (fun hc6=>?_) (fun hc6=>?_)
       ·try simp only [bls] at hc6
        conv=>whnf
        refine bT zqS ?_
        exact qw36
       ·try simp only [bls] at hc6
        exact qw32
     ·try simp only [bls] at hc4
      conv=>whnf
      refine bF zqS ?_
      conv=>whnf
      refine bF zqS ?_
      conv=>whnf
      refine bF zqS ?_
      conv=>whnf
      refine .ct ?_
      conv=>whnf
      refine CallG.mk (check_X _) rfl ?_
      conv=>whnf
      refine bS (fun hc8=>?_) (fun hc8=>?_)
      ·try simp only [bls] at hc8
       exact qw33
      ·try simp only [bls] at hc8
       conv=>whnf
       refine bF zqS ?_
       conv=>whnf
       refine bF zqS ?_
       conv=>whnf
       refine bF zqS ?_
       conv=>whnf
       refine bF zqS ?_
       conv=>whnf
       refine bF zqS ?_
       conv=>whnf
       refine bS (fun hc9=>?_) (fun hc9=>?_)
       ·try simp only [bls] at hc9
        exact qw34
       ·try simp only [bls] at hc9
        exact qw32
    ·try simp only [bls] at hc3
     conv=>whnf
     refine bF zqS ?_
     conv=>whnf
     refine bF zqS ?_
     conv=>whnf
     refine bF zqS ?_
     conv=>whnf
     refine .ct ?_
     conv=>whnf
     refine CallG.mk (check_X _) rfl ?_
     conv=>whnf
     refine bS (fun hc10=>?_) (fun hc10=>?_)
     ·try simp only [bls] at hc10
      exact qw33
     ·try simp only [bls] at hc10
      conv=>whnf
      refine bF zqS ?_
      conv=>whnf
      refine bF zqS ?_
      conv=>whnf
      refine bF zqS ?_
      conv=>whnf
      refine bF zqS ?_
      conv=>whnf
      refine bF zqS ?_
      conv=>whnf
      refine bS (fun hc11=>?_) (fun hc11=>?_)
      ·try simp only [bls] at hc11
       exact qw34
      ·try simp only [bls] at hc11
       exact qw32
   ·exact qw38
set_option maxRecDepth 20000 in
theorem row12_T (b b2 b3 b4 : Bool) (t : Tbl) (r : List Val) (hn : t.c.length ≤ 100000) (hrn : r.length ≤ 100000) : XMeets Tryz.prog 20 [tbT b b2 b3 t,.sl b4 (r.map vlC)] (.p (.v (.bool (rowB t.c r))) (nlv _)):=by
 refine XMeets.of_X tabX_ok (avs:=[.ag [.p (.v (.string (t.n))) (nlv _),.p (.sl false (t.c.map dfC)) (nl_dc _).sl,.p (.sl false (t.r.map (rwC false))) (nl_rw _ _).sl],.p (.sl false (r.map vlC)) (nl_vl _).sl]) [(0,.ag [.p (.v (.string (t.n))) (nlv _),.p (.sl false (t.c.map dfC)) (nl_dc _).sl,.p (.sl false (t.r.map (rwC false))) (nl_rw _ _).sl]),(1,.p (.sl false (r.map vlC)) (nl_vl _).sl)] (by kernel_rfl) Tryz.func20 rfl (by simp [PuL,Pu,tbT,stT,tbC,rwC,vlC,dfC,pu_vl,pu_dc,pu_rw,pu_tb]) (by simp only [untagL,untag,tbT,stT,tbC,rwC,vlC,dfC,untag_vl,untag_dc,untag_rw,untag_tb]; rfl) rfl rfl ?_
 intro B w0
 conv=>whnf
 refine bS (fun hc1=>?_) (fun hc1=>?_)
 ·exact qw39
 ·try simp only [bls] at hc1
  conv=>whnf
  refine XT.loop tabX_ok (Y:=Nat) [4,5,6,15,16,17,18,19,20,21,22,23,24,25,26,27,28,29,30,31,32,33,34,35,36,37,38,39,40,41,42,43,44,45,46,47,48,49,50,51,52,53,54,55] (fun k=>[(15,.p (.v (.int .i64 (k))) (nlv _))]) (fun k=>[]) (fun k=>k ≤ r.length∧fitP t.c r k) (fun k=>r.length - k) 0 ⟨Nat.zero_le _,fitP_0 _ _⟩ ?_ ?_
  ·exact qw30
  ·rintro k ⟨hk,hP⟩
   conv=>whnf
   refine bS (fun hc2=>?_) (fun hc2=>?_)
   ·try simp only [bls] at hc2
    conv=>whnf
    refine IdxG.map (l:=r) _ rfl (by first | omega | (simp only [List.length_map] at *; omega)) ?_; intro v1 hv1 hnv1
    conv=>whnf
    refine ⟨rfl,?_⟩
    conv=>whnf
    refine RegG.par 35 (by kernel_rfl) ?_
    conv=>whnf
    refine CallG.mk (right_X _) rfl ?_
    conv=>whnf
    refine bS (fun hc3=>?_) (fun hc3=>?_)
    ·try simp only [bls] at hc3
     conv=>whnf
     refine bT zqS ?_
     conv=>whnf
     refine bT zqS ?_
     conv=>whnf
     refine bT zqS ?_
     conv=>whnf
     refine bT zqS ?_
     conv=>whnf
     refine bT zqS ?_
     conv=>whnf
     refine bT zqS ?_
     conv=>whnf
     refine bT zqS ?_
     conv=>whnf
     refine bT zqS ?_
     conv=>whnf
     refine bT zqS ?_
     conv=>whnf
     refine bT zqS ?_
     conv=>whnf
     refine bT zqS ?_
     conv=>whnf
     refine FinG.mk none ?_ zqR
     simp only [outs,zqL,fr_by1]
     rw [rowB_g (by assumption) hv1 (by assumption)]
    ·try simp only [bls] at hc3
     conv=>whnf
     refine bF zqS ?_
     conv=>whnf
     refine bF zqS ?_
     conv=>whnf
     refine bF zqS ?_
     conv=>whnf
     refine bF zqS ?_
     conv=>whnf
     refine bF zqS ?_
     conv=>whnf
     refine IdxG.map (l:=t.c) _ rfl (by first | omega | (simp only [List.length_map] at *; omega)) ?_; intro x1 hx1 hnx1
     conv=>whnf
     refine ⟨rfl,?_⟩
     conv=>whnf
     refine bF zqS ?_
     conv=>whnf
     refine bF zqS ?_
     conv=>whnf
     refine bF zqS ?_
     conv=>whnf
     refine bF zqS ?_
     conv=>whnf
     refine bS (fun hc4=>?_) (fun hc4=>?_)
     ·try simp only [bls] at hc4
      conv=>whnf
      refine bT zqS ?_
      conv=>whnf
      refine bT zqS ?_
      conv=>whnf
      refine bT zqS ?_
      conv=>whnf
      refine bS (fun hc5=>?_) (fun hc5=>?_)
      ·try simp only [bls] at hc5
       conv=>whnf
       refine bT zqS ?_
       conv=>whnf
       refine bT zqS ?_
       exact qw37
      ·try simp only [bls] at hc5
       conv=>whnf
       refine bF zqS ?_
       conv=>whnf
       refine bF zqS ?_
       conv=>whnf
       refine bF zqS ?_
       conv=>whnf
       refine IdxG.map (l:=t.c) _ rfl (by first | omega | (simp only [List.length_map] at *; omega)) ?_; intro x1 hx1 hnx1
       conv=>whnf
       refine ⟨rfl,?_⟩
       conv=>whnf
       refine bF zqS ?_
       conv=>whnf
       refine bF zqS ?_
       conv=>whnf
       refine bT zqS ?_
       conv=>whnf
       refine bF zqS ?_
       conv=>whnf
       refine bT zqS ?_
       conv=>whnf
       refine bS (fun hc6=>?_) (fun hc6=>?_)
       ·try simp only [bls] at hc6
        exact qw37
       ·try simp only [bls] at hc6
        conv=>whnf
        refine bF zqS ?_
        conv=>whnf
        refine bF zqS ?_
        conv=>whnf
        refine bF zqS ?_
        conv=>whnf
        refine IdxG.map (l:=t.c) _ rfl (by first | omega | (simp only [List.length_map] at *; omega)) ?_; intro x1 hx1 hnx1
        conv=>whnf
        refine ⟨rfl,?_⟩
        conv=>whnf
        refine bF zqS ?_
        conv=>whnf
        refine bF zqS ?_
        conv=>whnf
        refine bT zqS ?_
        conv=>whnf
        refine bF zqS ?_
        exact qw36
     ·try simp only [bls] at hc4
      conv=>whnf
      refine bF zqS ?_
      conv=>whnf
      refine bF zqS ?_
      conv=>whnf
      refine bF zqS ?_
      conv=>whnf
      refine bF zqS ?_
      conv=>whnf
      refine bF zqS ?_
      exact qw32
   ·exact qw38
end Go.Proofs.YtpgfhkbnngjegaaGreatDoor

namespace Go.Proofs.YtpgfhkbnngjegaaGreatDoor
open Go.RowKit
open Go.WideElems (Fit rg rd pl)
open Go.ChangeMaps (setBlock modify_eq_set)
open Go.WideMaps (KeyLaw)
open Go.MapKept
set_option linter.unusedVariables false
set_option linter.unusedSimpArgs false
section
variable {H : Type} {P : Program} {w : World} {t k e : TypeId} {R : Value→Option (DataW H × List MemPlace)} {b : Nat} {es : Array MapEntry} {clock : Nat}
end
end Go.Proofs.YtpgfhkbnngjegaaGreatDoor
