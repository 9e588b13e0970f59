/- Small words for walks that are reckoned: wraps, closers. No condition. -/
import Derived.Test.YtpgfhkbnngjegaaGreatDoorU3
namespace Go.Proofs.YtpgfhkbnngjegaaGreatDoor
open Go.RowKit
set_option linter.unusedVariables false
set_option linter.unusedSimpArgs false
section
variable {P : Program} {B : Nat} {w0 : World} {T : Tab} {n : Nat} {e : Env} {h : List XLB} {gs : Frames} {K : XQ} {c : Code}
mutual
def lowX (m : Nat) : XV→XV
 | .p t h=>.p t h
 | .any=>.any
 | .row j=>match Nat.blt j m with
  | true=>.row j
  | false=>.any
 | .ptr j off=>match Nat.blt j m with
  | true=>.ptr j off
  | false=>.any
 | .rp j k sz o=>match Nat.blt j m with
  | true=>.rp j k sz o
  | false=>.any
 | .ag vs=>.ag (lowXL m vs)
 | .tu vs=>.tu (lowXL m vs)
 | .fu f vs=>.fu f (lowXL m vs)
 | .ow e sz els h=>.ow e sz els h
 | .pin u t h=>.pin u t h
 | .z j t h=>match Nat.blt j m with
  | true=>.z j t h
  | false=>.any
 | .win j k sz=>match Nat.blt j m with
  | true=>.win j k sz
  | false=>.any
def lowXL (m : Nat) : List XV→List XV
 | []=>[]
 | v :: vs=>lowX m v :: lowXL m vs
end
theorem low_blt (m j : Nat) : low m j = Nat.blt j m:=by
 unfold low
 cases hb : Nat.blt j m with
 | true=>have:=Nat.blt_eq.mp hb; simp [this]
 | false=>
  have : ¬ j < m:=fun h=>by have:=Nat.blt_eq.mpr h; rw [hb] at this; cases this
  exact decide_eq_false this
mutual
theorem lowX_den (m : Nat) : ∀ v : XV,(lowX m v).den = kp (low m) v.den
 | .p t h=>(h.k _).symm
 | .any=>rfl
 | .row j=>by
  simp only [lowX,XV.den,kp,low_blt]
  cases Nat.blt j m <;> rfl
 | .ptr j off=>by
  simp only [lowX,XV.den,kp,low_blt]
  cases Nat.blt j m <;> rfl
 | .rp j k sz o=>by
  simp only [lowX,XV.den,kp,low_blt]
  cases Nat.blt j m <;> rfl
 | .ag vs=>by simp only [lowX,XV.den,kp,lowXL_den m vs]
 | .tu vs=>by simp only [lowX,XV.den,kp,lowXL_den m vs]
 | .fu f vs=>by simp only [lowX,XV.den,kp,lowXL_den m vs]
 | .ow e sz els h=>by simp only [lowX,XV.den,kp,h.k]
 | .pin u t h=>rfl
 | .z j t h=>by
  simp only [lowX,XV.den,kp,low_blt]
  cases Nat.blt j m <;> rfl
 | .win j k sz=>by
  simp only [lowX,XV.den,kp,low_blt]
  cases Nat.blt j m <;> rfl
theorem lowXL_den (m : Nat) : ∀ vs : List XV,XV.denL (lowXL m vs) = kpL (low m) (XV.denL vs)
 | []=>rfl
 | v :: vs=>by simp only [lowXL,XV.denL,kpL,lowX_den m v,lowXL_den m vs]
end
structure LeV (a b : XV) : Prop where
 le : LeT a.den b.den
theorem LeV.rfl {a : XV} : LeV a a:=⟨.inr (.inl (Eq.refl _))⟩
theorem LeV.of {a b : XV} (h : a.den = b.den) : LeV a b:=⟨.inr (.inl h)⟩
theorem LeV.any {a : XV} : LeV a .any:=⟨.inl (Eq.refl _)⟩
theorem LeV.nil {hp : Nl .nil_} {b : Bool} {hq : Nl (.sl b [])} : LeV (.p .nil_ hp) (.p (.sl b []) hq):=⟨.inr (.inr ⟨Eq.refl _,b,Eq.refl _⟩)⟩
theorem LeV.val {x y : Value} {hp : Nl (.v x)} {hq : Nl (.v y)} (h : x = y) : LeV (.p (.v x) hp) (.p (.v y) hq):=.of (by simp only [XV.den,h])
theorem LeV.int {k : IntKind} {x y : Int} {hp : Nl (.v (.int k x))} {hq : Nl (.v (.int k y))} (h : x = y) : LeV (.p (.v (.int k x)) hp) (.p (.v (.int k y)) hq):=.val (by rw [h])
theorem LeV.tv {x y : TV} {hp : Nl x} {hq : Nl y} (h : x = y) : LeV (.p x hp) (.p y hq):=.of h
def LeEnv (m : Nat) (e : Env) : Env→Prop
 | []=>True
 | x :: r=>LeV (lowX m (look e x.1)) x.2∧LeEnv m e r
theorem LeEnv.look {m : Nat} {e : Env} : ∀ {e' : Env},LeEnv m e e'→∀ d,LeT (kp (low m) (look e d).den) (look e' d).den
 | [],_,d=>.inl rfl
 | x :: r,hh,d=>by
  simp only [LeEnv] at hh
  by_cases hd : x.1 = d
  ·have e1 : Go.Proofs.YtpgfhkbnngjegaaGreatDoor.look (x :: r) d = x.2:=by
    have:=look_same r x.1 x.2
    rw [← hd]; exact this
   rw [e1,← lowX_den,← hd]
   exact hh.1.le
  ·have e1 : Go.Proofs.YtpgfhkbnngjegaaGreatDoor.look (x :: r) d = Go.Proofs.YtpgfhkbnngjegaaGreatDoor.look r d:=look_ne r x.2 hd
   rw [e1]
   exact LeEnv.look hh.2 d
theorem leL_of : ∀ {l l' : List TV},l.length = l'.length→(∀ (i : Nat) (t t' : TV),l[i]? = some t→l'[i]? = some t'→LeT t t')→LeL l l'
 | [],l',hl,_=>List.eq_nil_of_length_eq_zero hl.symm
 | t :: ts,[],hl,_=>by simp at hl
 | t :: ts,t' :: ts',hl,hh=>⟨t',ts',rfl,hh 0 t t' rfl rfl,leL_of (by simpa using hl) fun i a b ha hb=>hh (i + 1) a b (by simpa using ha) (by simpa using hb)⟩
theorem LeEnv.leL {m : Nat} {e e' : Env} (hh : LeEnv m e e') (n : Nat) : LeL (kpL (low m) (toL n e)) (toL n e'):=by
 rw [kpL_map]
 refine leL_of (by simp [toL]) fun i t t' h1 h2=>?_
 simp only [toL,List.map_map,List.getElem?_map] at h1 h2
 cases hr : (List.range n)[i]? with
 | none=>rw [hr] at h1; cases h1
 | some j=>
  rw [hr] at h1 h2
  simp only [Option.map_some,Option.some.injEq,Function.comp] at h1 h2
  subst h1 h2
  exact LeEnv.look hh j
def LeFr (m : Nat) : Frames→Frames→Prop
 | [],gs'=>gs' = []
 | f :: r,gs'=>∃ f' r',gs' = f' :: r'∧f.1 = f'.1∧LeEnv m f.2 f'.2∧LeFr m r r'
theorem LeL.append : ∀ {a b a' b' : List TV},LeL a a'→LeL b b'→LeL (a ++ b) (a' ++ b')
 | [],b,a',b',h,h2=>by simp only [LeL] at h; subst h; exact h2
 | t :: ts,b,a',b',h,h2=>by
  simp only [LeL] at h
  obtain ⟨u,us,rfl,h3,h4⟩:=h
  exact ⟨u,us ++ b',rfl,h3,LeL.append h4 h2⟩
theorem LeFr.leL {m : Nat} : ∀ {gs gs' : Frames},LeFr m gs gs'→LeL (kpL (low m) (denG gs)) (denG gs')
 | [],gs',h=>by simp only [LeFr] at h; subst h; rfl
 | f :: r,gs',h=>by
  simp only [LeFr] at h
  obtain ⟨f',r',rfl,h1,h2,h3⟩:=h
  have:=(h2.leL f.1).append h3.leL
  simp only [denG,kpL_map,List.map_append] at this ⊢
  rw [← h1]
  exact this
def LeVs (m : Nat) : List XV→List XV→Prop
 | [],l=>l = []
 | v :: vs,l=>∃ u us,l = u :: us∧LeV (lowX m v) u∧LeVs m vs us
theorem LeVs.leL {m : Nat} : ∀ {a b : List XV},LeVs m a b→LeL (kpL (low m) (XV.denL a)) (XV.denL b)
 | [],b,h=>by simp only [LeVs] at h; subst h; rfl
 | v :: vs,b,h=>by
  simp only [LeVs] at h
  obtain ⟨u,us,rfl,h1,h2⟩:=h
  exact ⟨u.den,_,rfl,by rw [← lowX_den]; exact h1.le,h2.leL⟩
theorem LeVs.nil {m : Nat} : LeVs m [] []:=rfl
theorem LeFr.nil {m : Nat} : LeFr m [] []:=rfl
inductive LeBk (m : Nat) : XLB→XLB→Prop
 | none : LeBk m .none .none
 | cells {t : TypeId} {cs cs' : List XV} (h : LeVs m cs cs') : LeBk m (.cells t cs) (.cells t cs')
 | row {e : TypeId} {sz : Nat} {els els' : List (List TV)} {hp : NlLL els} {hq : NlLL els'} (h : els = els') : LeBk m (.row e sz els hp) (.row e sz els' hq)
 | ext {x : Ext} : LeBk m (.ext x) (.ext x)
 | rowF {e : TypeId} {sz : Nat} {pre pre' post post' : List (List TV)} {hp : NlLL pre} {hq : NlLL post} {hp' : NlLL pre'} {hq' : NlLL post'} {cs cs' : List XV} (h1 : pre = pre') (h2 : cs.map (lowX m) = cs') (h3 : post = post') : LeBk m (.rowF e sz pre hp cs post hq) (.rowF e sz pre' hp' cs' post' hq')
def LeHp (m : Nat) : List XLB→List XLB→Prop
 | _,[]=>True
 | [],_ :: _=>False
 | b :: bs,c :: cs=>LeBk m b c∧LeHp m bs cs
theorem LeHp.leB {m : Nat} : ∀ {h h' : List XLB},LeHp m h h'→LeB (((h.map XLB.den).take h'.length).map (LB.kp (low m))) (h'.map XLB.den)
 | h,[],_=>by simp [LeB]
 | [],_ :: _,hh=>hh.elim
 | b :: bs,c :: cs,hh=>by
  obtain ⟨h1,h2⟩:=hh
  refine ⟨c.den,cs.map XLB.den,rfl,?_,h2.leB⟩
  cases h1 with
  | none=>exact .inl rfl
  | ext=>exact .inl rfl
  | cells h=>exact .inr ⟨_,_,_,rfl,rfl,h.leL⟩
  | row h=>subst h; refine .inl ?_; rename_i hp _; simp only [XLB.den,LB.kp,hp.k]
  | rowF h1 h2 h3=>
   subst h1 h2 h3
   refine .inl ?_
   rename_i hp hq cs _ _
   have e1 : XV.denL (cs.map (lowX m)) = kpL (low m) (XV.denL cs):=by
    simp only [denL_map,List.map_map,kpL_map]
    exact List.map_congr_left fun d _=>lowX_den m d
   simp only [XLB.den,LB.kp,e1,kpLL_append,kpLL,hp.k,hq.k]
structure LeX (e : Env) (h : List XLB) (gs : Frames) (e' : Env) (h' : List XLB) (gs' : Frames) : Prop where
 e : LeEnv h'.length e e'
 h : LeHp h'.length h h'
 g : LeFr h'.length gs gs'
theorem LeX.sle {e' : Env} {h' : List XLB} {gs' : Frames} (hh : LeX e h gs e' h' gs') (gh : List Value) : SLe B w0 gh (xst n e h gs) (xst n e' h' gs'):=
 SLe.back (σ:=xst n e h gs) h'.length (hh.e.leL n) hh.h.leB hh.g.leL
theorem XT.of (O : TabOk P T) (hx : X P B w0 T n c e h gs K) : XT P B w0 n c e h gs K:=X_ok O hx
def memN (d : Nat) : List Nat→Bool
 | []=>false
 | x :: r=>match Nat.beq x d with
  | true=>true
  | false=>memN d r
def dropE : List Nat→Env→Env
 | _,[]=>[]
 | ds,x :: r=>match memN x.1 ds with
  | true=>dropE ds r
  | false=>x :: dropE (x.1 :: ds) r
def setsH (h : List XLB) : List (Nat × XLB)→List XLB
 | []=>h
 | x :: r=>setsH (h.set x.1 x.2) r
theorem XT.loop (O : TabOk P T) {Y : Type} (ds : List Nat) (us : Y→Env) (hs : Y→List (Nat × XLB)) (inv : Y→Prop) (μ : Y→Nat) (y0 : Y) (h0 : inv y0) (hle : LeX e h gs (us y0 ++ dropE ds e) (setsH h (hs y0)) gs)
  (round : ∀ y,inv y→forceE (us y ++ dropE ds e) fun e'=>forceH (setsH h (hs y)) fun h'=>X P B w0 T n c e' h' gs fun ex e1 h1 g1=>match ex with
   | .normal=>∃ z,inv z∧μ z < μ y∧LeX e1 h1 g1 (us z ++ dropE ds e) (setsH h (hs z)) gs
   | ex=>K ex e1 h1 g1) : XT P B w0 n (.loop c) e h gs K:=⟨fun gh Q hq=>by
 refine TW.le (TW.loop (fun m σ=>∃ y,inv y∧μ y = m∧σ = xst n (us y ++ dropE ds e) (setsH h (hs y)) gs) (μ y0) ⟨y0,h0,rfl,rfl⟩ fun m σ ⟨y,h1,h2,h3⟩=>?_) (hle.sle gh)
 subst h3
 have:=forceH_ok (k:=fun h'=>X P B w0 T n c _ h' gs _) (forceE_ok (k:=fun e'=>forceH (setsH h (hs y)) fun h'=>X P B w0 T n c e' h' gs _) (round y h1))
 refine (X_ok O this).ok gh _ fun ex e1 h1 g1 hk=>?_
 cases ex with
 | normal=>
  obtain ⟨z,hz1,hz2,hz3⟩:=hk
  exact ⟨μ z,_,by omega,⟨z,hz1,rfl,rfl⟩,hz3.sle gh⟩
 | _=>exact hq _ _ _ _ hk⟩
theorem XT.nilr (d : Nat) (ty : TypeId) (sz : Nat) {hp : Nl .nil_} (hd : look e d = .p .nil_ hp) (hn : Nat.blt d n = true) (hx : XT P B w0 n c ((d,.row h.length) :: e) (h ++ [.row ty sz [] .nil]) gs K) : XT P B w0 n c e h gs K:=⟨fun gh Q hq=>by
 have hdn:=Nat.blt_eq.mp hn
 refine TW.le (hx.ok gh Q hq) ?_
 have:=SLe.nilrow (B:=B) (w0:=w0) (gh:=gh) (σ:=xst n e h gs) (k:=d) ty sz (by simp only [xst,toL_get? e hdn,hd]; rfl)
 simp only [xst,toL_set e _ hdn,List.map_append,List.length_map] at this ⊢
 exact this⟩
inductive FinG (h : List XLB) (v : XV) (r : TV) : Prop
 | mk (q : Option Nat) (ho : Out (h.map XLB.den) q v.den r) (hq : ∀ i,q = some i→(hf (h.map XLB.den) i).here) : FinG h v r
def finQ (T : Tab) (n : Nat) (rs : List ResultVar) (r : TV) : XQ:=fun ex e h _=>match ex with
 | .normal=>resX T n e h rs fun v=>FinG h v r
 | .ret=>resX T n e h rs fun v=>FinG h v r
 | _=>False
theorem XMeets.of_X (O : TabOk P T) {f : FuncId} {fn : Func} {c : Code} {args : List TV} {avs : List XV} {r : XV} (e0 : Env) (hE : entB P f = true) (hfn : P.funcs[f]? = some fn) (hb : fn.body = some c) (hp : PuL args) (hu : untagL args = XV.denL avs) (he : envA avs 0 = e0) (hle : Nat.ble avs.length fn.ntmps = true)
  (hx : ∀ B w0,X P B w0 T fn.ntmps c e0 [] [] (finQ T fn.ntmps fn.results.toList r.den)) : XMeets P f args r:=⟨hE,TMeets.of_TW hfn hb hp fun B w0=>by
 have hle:=Nat.le_of_ble_eq_true hle
 have hl : args.length = (XV.denL avs).length:=by rw [← hu]; exact (untagL_len args).symm
 rw [hu,hl,← toL_envA hle,he]
 refine (X_ok O (hx B w0)).ok [] _ fun ex e h gs hk=>?_
 have fin : ∀ {ex : Exit},(ex = .normal∨ex = .ret)→(resX T fn.ntmps e h fn.results.toList fun v=>FinG h v r.den)→endT P fn r.den ex (xst fn.ntmps e h gs):=fun hex hk=>by
  obtain ⟨v,hv,q,ho,hq⟩:=resX_ok O (g:=denG gs) hk
  exact ⟨hex,v.den,q,hv,ho,hq⟩
 cases ex with
 | normal=>exact fin (.inl rfl) hk
 | ret=>exact fin (.inr rfl) hk
 | _=>exact hk.elim⟩
where
 untagL_len : ∀ ts : List TV,(untagL ts).length = ts.length
  | []=>rfl
  | t :: ts=>by simp [untagL,untagL_len ts]
theorem XMeets.eq {f : FuncId} {args : List TV} {r r' : XV} (hm : XMeets P f args r) (hr : r = r') : XMeets P f args r':=hr ▸ hm
theorem TMeets.shared {f : FuncId} {args : List TV} {ty : TypeId} {sz : Nat} {els : List (List TV)} (hfr : FrLL els) (hm : TMeets P f args (.osl ty sz els)) : TMeets P f args (.sl true els):=fun C vals hg hd=>
 (hm C vals hg hd).mono fun e w' ⟨u,ov,h1,h2,h3,h4⟩=>by
  refine ⟨u,.nilFunc,h1,h2,fun g hg=>(by cases hg),?_⟩
  simp only [Dn] at h4
  obtain ⟨A,c,css,rfl,⟨h5,h6⟩,h7,h8⟩:=h4
  have h9 : DnLL (rsCx C.w.heap.size w' .nilFunc) els css:=DnLL.fr (C:=rsCx C.w.heap.size w' ov) (C':=rsCx C.w.heap.size w' .nilFunc) rfl (Nat.le_refl _) (fun k hk _ _=>⟨hk.1,fun h=>by cases h⟩) _ _ hfr h8
  refine row_sl (base:=C.w.heap.size) h6 h7 h9 (fun ad ha=>⟨?_,fun h=>by cases h⟩) (fun _=>Nat.le_refl _)
  refine (h3 ad.block ?_).1
  rw [← h5,ha]
  rfl
theorem XMeets.shared {f : FuncId} {args : List TV} {ty : TypeId} {sz : Nat} {els : List (List TV)} {hp : NlLL els} (hfr : FrLL els) (hm : XMeets P f args (.ow ty sz els hp)) : XMeets P f args (.p (.sl true els) hp.sl):=⟨hm.1,hm.2.shared hfr⟩
end
end Go.Proofs.YtpgfhkbnngjegaaGreatDoor

namespace Go.Proofs.YtpgfhkbnngjegaaGreatDoor
open Go.RowKit
set_option linter.unusedVariables false
set_option linter.unusedSimpArgs false
theorem wr_i64 (x : Int) : IntKind.i64.wrap x = (x + 9223372036854775808) % 18446744073709551616 - 9223372036854775808:=by
 have e1 : (2 : Int) ^ 64 = 18446744073709551616:=by decide
 have e2 : (2 : Int) ^ (64 - 1) = 9223372036854775808:=by decide
 simp only [IntKind.wrap,IntKind.bits,IntKind.signed,Bool.true_and,decide_eq_true_eq,e1,e2]
 by_cases hx : x % 18446744073709551616 ≥ 9223372036854775808
 ·rw [if_pos hx]; omega
 ·rw [if_neg hx]; omega
theorem wr_u64 (x : Int) : IntKind.u64.wrap x = x % 18446744073709551616:=by
 simp only [IntKind.wrap,IntKind.bits,IntKind.signed]; simp
theorem wr_u8 (x : Int) : IntKind.u8.wrap x = x % 256:=by
 simp only [IntKind.wrap,IntKind.bits,IntKind.signed]; simp
theorem wr_i32 (x : Int) : IntKind.i32.wrap x = (x + 2147483648) % 4294967296 - 2147483648:=by
 have e1 : (2 : Int) ^ 32 = 4294967296:=by decide
 have e2 : (2 : Int) ^ (32 - 1) = 2147483648:=by decide
 simp only [IntKind.wrap,IntKind.bits,IntKind.signed,Bool.true_and,decide_eq_true_eq,e1,e2]
 by_cases hx : x % 4294967296 ≥ 2147483648
 ·rw [if_pos hx]; omega
 ·rw [if_neg hx]; omega
theorem wr_u32 (x : Int) : IntKind.u32.wrap x = x % 4294967296:=by
 simp only [IntKind.wrap,IntKind.bits,IntKind.signed]; simp
theorem wrs : (∀ x : Int,IntKind.i64.wrap x = (x + 9223372036854775808) % 18446744073709551616 - 9223372036854775808)∧(∀ x : Int,IntKind.u64.wrap x = x % 18446744073709551616)∧(∀ x : Int,IntKind.u8.wrap x = x % 256)∧(∀ x : Int,IntKind.i32.wrap x = (x + 2147483648) % 4294967296 - 2147483648)∧(∀ x : Int,IntKind.u32.wrap x = x % 4294967296):=⟨wr_i64,wr_u64,wr_u8,wr_i32,wr_u32⟩
theorem wz : (∀ x : Int,-9223372036854775808 ≤ x→x < 9223372036854775808→IntKind.i64.wrap x = x)∧(∀ x : Int,0 ≤ x→x < 18446744073709551616→IntKind.u64.wrap x = x)∧(∀ x : Int,0 ≤ x→x < 256→IntKind.u8.wrap x = x)∧(∀ x : Int,-2147483648 ≤ x→x < 2147483648→IntKind.i32.wrap x = x)∧(∀ x : Int,0 ≤ x→x < 4294967296→IntKind.u32.wrap x = x):=
 ⟨fun x h1 h2=>by rw [wr_i64]; omega,fun x h1 h2=>by rw [wr_u64]; omega,fun x h1 h2=>by rw [wr_u8]; omega,fun x h1 h2=>by rw [wr_i32]; omega,fun x h1 h2=>by rw [wr_u32]; omega⟩
theorem bls : (∀ (p : Prop) [Decidable p],(decide p = true) = p)∧(∀ (p : Prop) [Decidable p],(decide p = false) = ¬ p)∧(∀ b : Bool,((!b) = true) = (b = false))∧(∀ b : Bool,((!b) = false) = (b = true))∧(∀ a b : Bool,((a && b) = true) = (a = true∧b = true))∧(∀ a b : Bool,((a || b) = true) = (a = true∨b = true))∧(∀ a b : Bool,((a || b) = false) = (a = false∧b = false)) ∧
  (∀ {α : Type} [BEq α] [LawfulBEq α] (a b : α),((a == b) = true) = (a = b))∧(∀ {α : Type} [BEq α] [LawfulBEq α] (a b : α),((a == b) = false) = ¬ (a = b))∧(∀ a b : Int,(¬ a < b) = (b ≤ a))∧(∀ a b : Int,(¬ a ≤ b) = (b < a))∧(∀ a b : ByteArray,(bsEq a b = true) = (bs a = bs b))∧(∀ a b : ByteArray,(bsEq a b = false) = ¬ (bs a = bs b))∧(bs ⟨#[]⟩ = []) ∧
  (∀ {α β : Type} (f : α→β) (l : List α),(l.map f).length = l.length)∧(∀ {α : Type} (a b : List α),(a ++ b).length = a.length + b.length)∧(∀ {α : Type} (n : Nat) (a : List α),(a.take n).length = min n a.length)∧(∀ {α : Type} (n : Nat) (a : List α),(a.drop n).length = a.length - n):=
 ⟨fun _ _=>by simp,fun _ _=>by simp,fun _=>by simp,fun _=>by simp,fun _ _=>by simp,fun _ _=>by simp,fun _ _=>by simp,fun _ _=>by simp,fun _ _=>by simp,fun _ _=>by simp,fun _ _=>by simp,bsEq_t,bsEq_f,rfl,fun _ _=>List.length_map _,fun _ _=>List.length_append,fun _ _=>List.length_take,fun _ _=>List.length_drop⟩
theorem Out_row_slI {h : List LB} {q : Option Nat} {i : Nat} {b : Bool} {els : List (List TV)} : Out h q (.row i) (.sl b els)↔(∃ e sz,hf h i = .row e sz els)∧FrLL els∧q ≠ some i∧b = true:=by
 simp only [Out]
 constructor
 ·rintro ⟨e,sz,els',h1,h2,⟨_,h3⟩ | ⟨h3,h4⟩⟩
  ·cases h3
  ·injection h4 with h4 h5
   subst h5
   exact ⟨⟨e,sz,h1⟩,h2,h3,h4⟩
 ·rintro ⟨⟨e,sz,h1⟩,h2,h3,rfl⟩
  exact ⟨e,sz,els,h1,h2,.inr ⟨h3,rfl⟩⟩
theorem outs : (∀ t h,(XV.p t h).den = t)∧(XV.any.den = .any)∧(∀ i,(XV.row i).den = .row i)∧(∀ vs,(XV.ag vs).den = .agg (XV.denL vs))∧(∀ vs,(XV.tu vs).den = .tup (XV.denL vs))∧(∀ e sz els h,(XV.ow e sz els h).den = .osl e sz els)∧(XV.denL [] = [])∧(∀ v vs,XV.denL (v :: vs) = v.den :: XV.denL vs) ∧
  (XLB.none.den = .none)∧(∀ t cs,(XLB.cells t cs).den = .cells t (XV.denL cs))∧(∀ e sz els h,(XLB.row e sz els h).den = .row e sz els)∧(∀ {α β : Type} (f : α→β) (a : α) (l : List α),(a :: l).map f = f a :: l.map f)∧(∀ {α β : Type} (f : α→β),[].map f = []) ∧
  (∀ h q x y,Out h q (.v x) (.v y)↔x = y)∧(∀ h q ts rs,Out h q (.agg ts) (.agg rs)↔OutL h q ts rs)∧(∀ h q ts rs,Out h q (.tup ts) (.tup rs)↔OutL h q ts rs)∧(∀ h q,OutL h q [] []↔True)∧(∀ h q t r ts rs,OutL h q (t :: ts) (r :: rs)↔Out h q t r∧OutL h q ts rs) ∧
  (∀ h q b els b' els',Out h q (.sl b els) (.sl b' els')↔b = true∧FrLL els∧b' = true∧els = els')∧(∀ h q i e sz els,Out h q (.row i) (.osl e sz els)↔hf h i = .row e sz els∧FrLL els∧q = some i)∧(∀ h q i b els,Out h q (.row i) (.sl b els)↔(∃ e sz,hf h i = .row e sz els)∧FrLL els∧q ≠ some i∧b = true)∧(∀ h q e sz els,Out h q .nil_ (.osl e sz els)↔q = none∧els = [])∧(∀ h q b els,Out h q .nil_ (.sl b els)↔b = true∧els = [])∧(∀ h q,Out h q .nil_ .nil_↔True) ∧
  (∀ x l,hf (x :: l) 0 = x)∧(∀ x l n,hf (x :: l) (n + 1) = hf l n)∧(∀ p,(p∧True) = p)∧(∀ p,(True∧p) = p):=
 ⟨fun _ _=>rfl,rfl,fun _=>rfl,fun _=>rfl,fun _=>rfl,fun _ _ _ _=>rfl,rfl,fun _ _=>rfl,rfl,fun _ _=>rfl,fun _ _ _ _=>rfl,fun _ _ _=>rfl,fun _=>rfl,fun _ _ _ _=>Out_v,fun _ _ _ _=>Out_agg,fun _ _ _ _=>Out_tup,fun _ _=>OutL_nil,fun _ _ _ _ _ _=>OutL_cons,fun _ _ _ _ _ _=>Out_sl,fun _ _ _ _ _ _=>Out_row_osl,fun _ _ _ _ _=>Out_row_slI,fun _ _ _ _ _=>Out_nil_osl,fun _ _ _ _=>Out_nil_sl,fun _ _=>Out_nil_nil,fun _ _=>rfl,fun _ _ _=>rfl,fun _=>and_true _,fun _=>true_and _⟩
theorem IdxG.map {α : Type} {f : α→List TV} {l : List α} {hp : NlLL (l.map f)} {m : Int} {k : Nat→(c : List TV)→NlL c→Prop} (j : Nat) (hm : m = (j : Int)) (hj : j < l.length) (hk : ∀ x (hx : l[j]? = some x) (hc : NlL (f x)),k j (f x) hc) : IdxG (l.map f) hp m k:=by
 have hx : l[j]? = some l[j]:=List.getElem?_eq_getElem hj
 exact IdxG.mk (j:=j) (c:=f l[j]) (by rw [List.getElem?_map,hx]; rfl) hm (hk _ hx _)
end Go.Proofs.YtpgfhkbnngjegaaGreatDoor
