/- A step of straight code as a proposition that is reckoned: what an operation yields, and what goes on with it. Condition: what the program's table says of types. -/
import Derived.Test.YtpgfhkbnngjegaaGreatDoorU1
import Derived.Test.YtpgfhkbnngjegaaGreatDoorT27
import Derived.Test.YtpgfhkbnngjegaaGreatDoorT28
namespace Go.Proofs.YtpgfhkbnngjegaaGreatDoor
open Go.RowKit
set_option linter.unusedVariables false
set_option linter.unusedSimpArgs false
abbrev Tab:=Nat→Option (TI × Option Value)
structure TabOk (P : Program) (T : Tab) : Prop where
 ty : ∀ t x z,T t = some (x,z)→tiOf P t = some x∧∀ v,z = some v→(P.info? t).map (·.zero) = some (some v)
 mo : P.follows .mixedOrders = true
def nthO {α : Type} : List α→Nat→Option α
 | [],_=>none
 | x :: xs,n=>match n with
  | 0=>some x
  | n + 1=>nthO xs n
theorem nthO_eq {α : Type} : ∀ (l : List α) (n : Nat),nthO l n = l[n]?
 | [],_=>rfl
 | x :: xs,0=>rfl
 | x :: xs,n + 1=>by simp [nthO,nthO_eq xs n]
section
variable {P : Program} {T : Tab} {n : Nat} {h : List XLB} {e : Env}
def tyK (T : Tab) (t : Nat) (k : TI→Prop) : Prop:=match T t with
 | some (x,_)=>k x
 | none=>False
theorem tyK_ok (O : TabOk P T) {t : Nat} {k : TI→Prop} (hh : tyK T t k) : ∃ ti,tiOf P t = some ti∧k ti:=by
 unfold tyK at hh
 split at hh
 ·rename_i x z hx
  exact ⟨x,(O.ty t x z hx).1,hh⟩
 ·exact hh.elim
def zK (T : Tab) (t : Nat) (k : TI→Value→Prop) : Prop:=match T t with
 | some (x,some z)=>k x z
 | _=>False
theorem zK_ok (O : TabOk P T) {t : Nat} {k : TI→Value→Prop} (hh : zK T t k) : ∃ ti z,tiOf P t = some ti∧(P.info? t).map (·.zero) = some (some z)∧k ti z:=by
 unfold zK at hh
 split at hh
 ·rename_i x z hx
  exact ⟨x,z,(O.ty t x _ hx).1,(O.ty t x _ hx).2 _ rfl,hh⟩
 ·exact hh.elim
def intK (v : XV) (k : IntKind→Int→Prop) : Prop:=match v with
 | .p (.v (.int kd m)) _=>k kd m
 | _=>False
theorem intK_ok {v : XV} {k : IntKind→Int→Prop} (hh : intK v k) : ∃ kd m,v.den = .v (.int kd m)∧k kd m:=by
 unfold intK at hh
 split at hh
 ·exact ⟨_,_,rfl,hh⟩
 ·exact hh.elim
def boolK (v : XV) (k : Bool→Prop) : Prop:=match v with
 | .p (.v (.bool b)) _=>k b
 | _=>False
theorem boolK_ok {v : XV} {k : Bool→Prop} (hh : boolK v k) : ∃ b,v.den = .v (.bool b)∧k b:=by
 unfold boolK at hh
 split at hh
 ·exact ⟨_,rfl,hh⟩
 ·exact hh.elim
def fldK (fs : List (Nat × Nat)) (f : Nat) (k : Nat→Nat→Prop) : Prop:=match nthO fs f with
 | some (fo,ft)=>k fo ft
 | none=>False
theorem fldK_ok {fs : List (Nat × Nat)} {f : Nat} {k : Nat→Nat→Prop} (hh : fldK fs f k) : ∃ fo ft,fs[f]? = some (fo,ft)∧k fo ft:=by
 unfold fldK at hh
 split at hh
 ·rename_i fo ft hx
  exact ⟨fo,ft,by rw [← nthO_eq]; exact hx,hh⟩
 ·exact hh.elim
def aggK (v : XV) (k : List XV→Prop) : Prop:=match v with
 | .ag vs=>forceV vs k
 | .p (.agg ts) hh=>unpK ts hh.agg k
 | _=>False
theorem aggK_ok {v : XV} {k : List XV→Prop} (hh : aggK v k) : ∃ vs,v.den = .agg (XV.denL vs)∧k vs:=by
 unfold aggK at hh
 split at hh
 ·exact ⟨_,rfl,forceV_ok hh⟩
 ·exact ⟨_,by simp only [XV.den,unp_den],unpK_ok hh⟩
 ·exact hh.elim
def oneX : XV→Bool
 | .p t _=>t.one
 | .row _=>true
 | .ptr _ _=>true
 | .rp _ _ _ _=>true
 | .fu _ _=>true
 | .z _ t _=>one1 t
 | .win _ _ _=>true
 | _=>false
theorem oneX_ok {v : XV} (hh : oneX v = true) : v.den.one = true:=by
 cases v <;> first | exact hh | rfl | (cases hh; done)
def allOne : List XV→Bool
 | []=>true
 | v :: vs=>match oneX v with
  | true=>allOne vs
  | false=>false
theorem allOne_ok : ∀ {vs : List XV},allOne vs = true→(XV.denL vs).all TV.one = true
 | [],_=>rfl
 | v :: vs,hh=>by
  simp only [allOne] at hh
  split at hh
  ·rename_i h1
   simp only [XV.denL,List.all_cons,oneX_ok h1,allOne_ok hh,Bool.and_self]
  ·cases hh
def cellsK (v : XV) (k : List XV→Prop) : Prop:=match v with
 | .ag vs=>forceV vs k
 | .p (.agg ts) hh=>unpK ts hh.agg k
 | v=>match oneX v with
  | true=>fv v fun v'=>k [v']
  | false=>False
theorem cellsK_ok {v : XV} {k : List XV→Prop} (hh : cellsK v k) : ∃ vs,cellsT v.den = some (XV.denL vs)∧k vs:=by
 unfold cellsK at hh
 split at hh
 ·exact ⟨_,rfl,forceV_ok hh⟩
 ·exact ⟨_,by simp only [XV.den,unp_den,cellsT],unpK_ok hh⟩
 ·split at hh
  ·rename_i ho
   have h3:=oneX_ok ho
   refine ⟨[v],?_,fv_ok (k:=fun v'=>k [v']) hh⟩
   have h4 : XV.denL [v] = [v.den]:=rfl
   rw [h4]
   generalize v.den = u at h3 ⊢
   cases u <;> simp [TV.one] at h3 <;> simp [cellsT,TV.one,h3]
  ·exact hh.elim
def packK (ag : Bool) (m : Nat) (vs : List XV) (k : XV→Prop) : Prop:=match ag with
 | true=>match Nat.ble m vs.length with
  | true=>takeK m vs fun l=>k (.ag l)
  | false=>False
 | false=>match vs with
  | v :: _=>fv v k
  | []=>False
theorem packK_ok {ag : Bool} {m : Nat} {vs : List XV} {k : XV→Prop} (hh : packK ag m vs k) : ∃ v,packT ag m (XV.denL vs) = some v.den∧k v:=by
 unfold packK at hh
 split at hh
 ·split at hh
  ·rename_i h1
   have h2:=Nat.le_of_ble_eq_true h1
   refine ⟨.ag (vs.take m),?_,takeK_ok (k:=fun l=>k (.ag l)) hh⟩
   have h3 : m ≤ (XV.denL vs).length:=by rw [denL_map]; simpa using h2
   simp only [packT,if_true,h3,XV.den]
   simp only [denL_map,List.map_take]
  ·exact hh.elim
 ·split at hh
  ·exact ⟨_,rfl,fv_ok hh⟩
  ·exact hh.elim
def cellsAtK (h : List XLB) (i : Nat) (k : TypeId→List XV→Prop) : Prop:=match hget h i with
 | .cells t cs=>k t cs
 | _=>False
theorem cellsAtK_ok {h : List XLB} {i : Nat} {k : TypeId→List XV→Prop} (hh : cellsAtK h i k) : ∃ t cs,hf (h.map XLB.den) i = .cells t (XV.denL cs)∧hget h i = .cells t cs∧k t cs:=by
 unfold cellsAtK at hh
 split at hh
 ·rename_i t cs hx
  exact ⟨t,cs,by rw [← hget_den,hx]; rfl,hx,hh⟩
 ·exact hh.elim
def rowAtK (h : List XLB) (i : Nat) (k : TypeId→Nat→(els : List (List TV))→NlLL els→Prop) : Prop:=match hget h i with
 | .row e sz els hp=>k e sz els hp
 | _=>False
theorem rowAtK_ok {h : List XLB} {i : Nat} {k : TypeId→Nat→(els : List (List TV))→NlLL els→Prop} (hh : rowAtK h i k) : ∃ e sz els hp,hf (h.map XLB.den) i = .row e sz els∧hget h i = .row e sz els hp∧k e sz els hp:=by
 unfold rowAtK at hh
 split at hh
 ·rename_i e sz els hp hx
  exact ⟨e,sz,els,hp,by rw [← hget_den,hx]; rfl,hx,hh⟩
 ·exact hh.elim
def rowLenK (h : List XLB) (i : Nat) (k : TypeId→Nat→Nat→Prop) : Prop:=match hget h i with
 | .row e sz els _=>k e sz els.length
 | .rowF e sz pre _ _ post _=>k e sz (pre.length + 1 + post.length)
 | _=>False
theorem rowLenK_ok {h : List XLB} {i : Nat} {k : TypeId→Nat→Nat→Prop} (hh : rowLenK h i k) : ∃ e sz els,hf (h.map XLB.den) i = .row e sz els∧k e sz els.length:=by
 unfold rowLenK at hh
 split at hh
 ·rename_i e sz els hp hx
  exact ⟨e,sz,els,by rw [← hget_den,hx]; rfl,hh⟩
 ·rename_i e sz pre hp cs post hq hx
  refine ⟨e,sz,_,by rw [← hget_den,hx]; rfl,?_⟩
  rw [show (pre ++ XV.denL cs :: post).length = pre.length + 1 + post.length by simp; omega]
  exact hh
 ·exact hh.elim
def dropP : Nat→(ts : List TV)→NlL ts→((ts : List TV)→NlL ts→Prop)→Prop
 | 0,ts,hp,k=>k ts hp
 | _ + 1,[],_,k=>k [] .nil
 | n + 1,_ :: ts,hp,k=>dropP n ts hp.tail k
theorem dropP_ok : ∀ {n : Nat} {ts : List TV} {hp : NlL ts} {k : (ts : List TV)→NlL ts→Prop},dropP n ts hp k→∃ hq,k (ts.drop n) hq
 | 0,ts,hp,k,hh=>⟨hp,hh⟩
 | n + 1,[],hp,k,hh=>by
  simp only [dropP] at hh
  exact ⟨by rw [List.drop_nil]; exact .nil,by simpa using hh⟩
 | n + 1,t :: ts,hp,k,hh=>by
  simp only [dropP] at hh
  exact dropP_ok (n:=n) hh
inductive IdxG (els : List (List TV)) (hp : NlLL els) (m : Int) (k : Nat→(c : List TV)→NlL c→Prop) : Prop
 | mk {j : Nat} {c : List TV} (hc : els[j]? = some c) (hm : m = (j : Int)) (hk : k j c (hp.at_ hc)) : IdxG els hp m k
theorem IdxG.ok {els : List (List TV)} {hp : NlLL els} {m : Int} {k : Nat→(c : List TV)→NlL c→Prop} (hh : IdxG els hp m k) : ∃ (j : Nat) (c : List TV),∃ hc : els[j]? = some c,m = (j : Int)∧k j c (hp.at_ hc):=by
 obtain ⟨hc,hm,hk⟩:=hh
 exact ⟨_,_,hc,hm,hk⟩
def isK (a b : Nat) (k : Prop) : Prop:=match Nat.beq a b with
 | true=>k
 | false=>False
theorem isK_ok {a b : Nat} {k : Prop} (hh : isK a b k) : a = b∧k:=by
 unfold isK at hh
 split at hh
 ·rename_i h1
  exact ⟨Nat.eq_of_beq_eq_true h1,hh⟩
 ·exact hh.elim
def posK (a : Nat) (k : Prop) : Prop:=match a with
 | 0=>False
 | _ + 1=>k
theorem posK_ok {a : Nat} {k : Prop} (hh : posK a k) : 0 < a∧k:=by
 cases a with
 | zero=>exact hh.elim
 | succ a=>exact ⟨Nat.succ_pos a,hh⟩
inductive FocG (pre : List (List TV)) (hp : NlLL pre) (post : List (List TV)) (hq : NlLL post) (kk : Nat) (kf : Prop) (kp : (kk' : Nat)→(c : List TV)→NlL c→Prop) (kq : (kk' : Nat)→(c : List TV)→NlL c→Prop) : Prop
 | foc (h : kk = pre.length) (hk : kf) : FocG pre hp post hq kk kf kp kq
 | pre (hk : IdxG pre hp (kk : Int) kp) : FocG pre hp post hq kk kf kp kq
 | post (q : Nat) (h : kk = pre.length + 1 + q) (hk : IdxG post hq (q : Int) kq) : FocG pre hp post hq kk kf kp kq
def rowCellK (h : List XLB) (i : Nat) (k : Nat→(Nat→(List XV→Prop)→Prop)→Prop) : Prop:=match hget h i with
 | .row _ sz els hp=>k sz fun kk g=>IdxG els hp (kk : Int) fun _ c hc=>unpK c hc g
 | .rowF _ sz pre hp cs post hq=>k sz fun kk g=>FocG pre hp post hq kk (g cs) (fun _ c hc=>unpK c hc g) (fun _ c hc=>unpK c hc g)
 | _=>False
theorem rowCellK_ok {h : List XLB} {i : Nat} {k : Nat→(Nat→(List XV→Prop)→Prop)→Prop} (hh : rowCellK h i k) : ∃ e sz els c,hf (h.map XLB.den) i = .row e sz els∧(∀ (kk : Nat) (g : List XV→Prop),c kk g→∃ vs,els[kk]? = some (XV.denL vs)∧g vs)∧k sz c:=by
 unfold rowCellK at hh
 split at hh
 ·rename_i e sz els hp hx
  refine ⟨e,sz,els,_,by rw [← hget_den,hx]; rfl,fun kk g hg=>?_,hh⟩
  obtain ⟨j',c,hc,hm,hh3⟩:=IdxG.ok hg
  obtain rfl : kk = j':=Int.ofNat.inj hm
  exact ⟨_,by rw [unp_den]; exact hc,unpK_ok hh3⟩
 ·rename_i e sz pre hp cs post hq hx
  refine ⟨e,sz,_,_,by rw [← hget_den,hx]; rfl,fun kk g hg=>?_,hh⟩
  rcases hg with ⟨h1,hk⟩ | ⟨hk⟩ | ⟨q,h1,hk⟩
  ·subst h1
   exact ⟨cs,by rw [List.getElem?_append_right (Nat.le_refl _)]; simp,hk⟩
  ·obtain ⟨j',c,hc,hm,hh3⟩:=IdxG.ok hk
   obtain rfl : kk = j':=Int.ofNat.inj hm
   have hlt:=(List.getElem?_eq_some_iff.1 hc).1
   exact ⟨_,by rw [unp_den,List.getElem?_append_left hlt]; exact hc,unpK_ok hh3⟩
  ·obtain ⟨j',c,hc,hm,hh3⟩:=IdxG.ok hk
   obtain rfl : q = j':=Int.ofNat.inj hm
   subst h1
   exact ⟨_,by rw [unp_den,List.getElem?_append_right (by omega),show pre.length + 1 + q - pre.length = q + 1 by omega]; exact hc,unpK_ok hh3⟩
 ·exact hh.elim
def opLoad (T : Tab) (n : Nat) (h : List XLB) (e : Env) (t : TypeId) (x : Operand) (k : XV→Option XLB→Prop) : Prop:=tyK T t fun ti=>match xev n e x with
 | .ptr i off=>cellsAtK h i fun _ cs=>dropK off cs fun r=>packK ti.ag ti.n r fun v=>k v none
 | .rp i kk sz j=>rowCellK h i fun sz' c=>isK sz sz' (c kk fun vs=>dropK j vs fun r=>packK ti.ag ti.n r fun v=>k v none)
 | .p (.eptr ts) hp=>unpK ts hp.eptr fun vs=>packK ti.ag ti.n vs fun v=>k v none
 | .p (.v (.pointer (some ⟨g,off,none⟩))) _=>match gl g with
  | some vs=>match nthO vs off with
   | some v=>match ti.ag with
    | false=>fv (xc v) fun v=>k v none
    | true=>False
   | none=>False
  | none=>False
 | _=>False
theorem opLoad_ok {B : Nat} {w0 : World} (O : TabOk P T) {o : Oper} {t : TypeId} {x : Operand} (ho : o.op = .load t x) {k : XV→Option XLB→Prop} (hh : opLoad T n h e t x k) : ∃ v new,TStep P B w0 (h.map XLB.den) (toL n e) o v.den (Option.map XLB.den new)∧k v new:=by
 obtain ⟨ti,ht,hh⟩:=tyK_ok O hh
 have hx:=xev_den n e x
 split at hh
 ·rename_i i off hv
  rw [hv] at hx
  obtain ⟨t0,cs,h1,_,hh⟩:=cellsAtK_ok hh
  obtain ⟨v,hp,hk⟩:=packK_ok (dropK_ok (k:=fun r=>packK ti.ag ti.n r fun v=>k v none) hh)
  exact ⟨v,none,S_load ho hx.symm h1 ht (by rw [← hp,denL_map,denL_map,List.map_drop]),hk⟩
 ·rename_i i kk sz j hv
  rw [hv] at hx
  obtain ⟨e',sz',els,c,h1,h2,hh⟩:=rowCellK_ok hh
  obtain ⟨h3,hh3⟩:=isK_ok hh
  subst h3
  obtain ⟨vs,hc,hh4⟩:=h2 _ _ hh3
  obtain ⟨v,hp,hk⟩:=packK_ok (dropK_ok (k:=fun r=>packK ti.ag ti.n r fun v=>k v none) hh4)
  exact ⟨v,none,S_load_row ho hx.symm h1 rfl hc ht (by rw [← hp]; congr 1; rw [denL_map,denL_map,List.map_drop]),hk⟩
 ·rename_i ts hp hv
  rw [hv] at hx
  obtain ⟨v,hp,hk⟩:=packK_ok (unpK_ok (k:=fun vs=>packK ti.ag ti.n vs fun v=>k v none) hh)
  rw [unp_den] at hp
  exact ⟨v,none,S_load_eptr ho hx.symm ht hp,hk⟩
 ·rename_i g off hp hv
  rw [hv] at hx
  split at hh
  ·rename_i vs hg
   split at hh
   ·rename_i v hv2
    rw [nthO_eq] at hv2
    split at hh
    ·rename_i ha
     exact ⟨xc v,none,by rw [xc_den]; exact S_load_gl ho hx.symm hg hv2 ht ha,fv_ok hh⟩
    ·exact hh.elim
   ·exact hh.elim
  ·exact hh.elim
 ·exact hh.elim
def opFieldAddr (T : Tab) (n : Nat) (e : Env) (t : TypeId) (x : Operand) (f : Nat) (k : XV→Option XLB→Prop) : Prop:=tyK T t fun ti=>fldK ti.fs f fun fo ft=>tyK T ft fun tf=>isK ti.k 1 (posK tf.n (match xev n e x with
 | .ptr i off=>k (.ptr i (off + fo)) none
 | .rp i kk sz j=>k (.rp i kk sz (j + fo)) none
 | .p (.eptr ts) hp=>dropP fo ts hp.eptr fun ts' hq=>k (.p (.eptr ts') hq.eptr) none
 | _=>False))
theorem opFieldAddr_ok {B : Nat} {w0 : World} (O : TabOk P T) {o : Oper} {t : TypeId} {x : Operand} {f : Nat} (ho : o.op = .fieldAddr t x f) {k : XV→Option XLB→Prop} (hh : opFieldAddr T n e t x f k) : ∃ v new,TStep P B w0 (h.map XLB.den) (toL n e) o v.den (Option.map XLB.den new)∧k v new:=by
 obtain ⟨ti,ht,hh⟩:=tyK_ok O hh
 obtain ⟨fo,ft,hf,hh⟩:=fldK_ok hh
 obtain ⟨tf,hft,hh⟩:=tyK_ok O hh
 obtain ⟨hk1,hh⟩:=isK_ok hh
 obtain ⟨hn,hh⟩:=posK_ok hh
 have hx:=xev_den n e x
 split at hh
 ·rename_i i off hv
  rw [hv] at hx
  exact ⟨_,none,S_fieldAddr ho hx.symm ht hk1 hf hft (by omega),hh⟩
 ·rename_i i kk sz j hv
  rw [hv] at hx
  refine ⟨_,none,?_,hh⟩
  have:=S_fieldAddr (B:=B) (w0:=w0) (h:=h.map XLB.den) ho hx.symm ht hk1 hf hft (by omega)
  simp only [XV.den,Nat.add_assoc] at this
  exact this
 ·rename_i ts hp hv
  rw [hv] at hx
  obtain ⟨hq,hh⟩:=dropP_ok hh
  exact ⟨_,none,S_fieldAddr_eptr ho hx.symm ht hk1 hf hft (by omega),hh⟩
 ·exact hh.elim
def opField (T : Tab) (n : Nat) (e : Env) (t : TypeId) (x : Operand) (f : Nat) (k : XV→Option XLB→Prop) : Prop:=tyK T t fun ti=>fldK ti.fs f fun fo ft=>tyK T ft fun tf=>isK ti.k 1 (aggK (xev n e x) fun vs=>dropK fo vs fun r=>packK tf.ag tf.n r fun v=>k v none)
theorem opField_ok {B : Nat} {w0 : World} (O : TabOk P T) {o : Oper} {t : TypeId} {x : Operand} {f : Nat} (ho : o.op = .field t x f) {k : XV→Option XLB→Prop} (hh : opField T n e t x f k) : ∃ v new,TStep P B w0 (h.map XLB.den) (toL n e) o v.den (Option.map XLB.den new)∧k v new:=by
 obtain ⟨ti,ht,hh⟩:=tyK_ok O hh
 obtain ⟨fo,ft,hf,hh⟩:=fldK_ok hh
 obtain ⟨tf,hft,hh⟩:=tyK_ok O hh
 obtain ⟨hk1,hh⟩:=isK_ok hh
 obtain ⟨vs,hv,hh⟩:=aggK_ok hh
 obtain ⟨v,hp,hk⟩:=packK_ok (dropK_ok (k:=fun r=>packK tf.ag tf.n r fun v=>k v none) hh)
 exact ⟨v,none,S_field ho ((xev_den n e x).symm.trans hv) ht hk1 hf hft (by rw [← hp,denL_map,denL_map,List.map_drop]),hk⟩
def opIndexAddr (T : Tab) (n : Nat) (h : List XLB) (e : Env) (t : TypeId) (x y : Operand) (k : XV→Option XLB→Prop) : Prop:=tyK T t fun ti=>tyK T ti.el fun te=>intK (xev n e y) fun _ m=>match xev n e x with
 | .p (.sl b els) hp=>isK ti.k 3 (posK te.n (IdxG els hp.sl m fun _ c hc=>c.length = te.n∧k (.p (.eptr c) hc.eptr) none))
 | .row i=>rowLenK h i fun _ sz len=>isK ti.k 3 (isK te.n sz (∃ j : Nat,m = (j : Int)∧j < len∧k (.rp i j sz 0) none))
 | .win i p sz'=>rowAtK h i fun _ sz els hp=>isK ti.k 3 (isK te.n sz (isK sz' sz (∃ j : Nat,m = (j : Int)∧p + j < els.length∧k (.rp i (p + j) sz 0) none)))
 | .ptr i off=>isK ti.k 2 (∃ j : Nat,m = (j : Int)∧j < ti.len∧k (.ptr i (off + j * te.n)) none)
 | .p (.v (.pointer (some ⟨g,off,none⟩))) _=>isK ti.k 2 (∃ j : Nat,m = (j : Int)∧j < ti.len∧k (.p (.v (.pointer (some ⟨g,off + j * te.n,none⟩))) (nlv _)) none)
 | .p (.eptr ts) hp=>isK ti.k 2 (∃ j : Nat,m = (j : Int)∧j < ti.len∧dropP (j * te.n) ts hp.eptr fun ts' hq=>k (.p (.eptr ts') hq.eptr) none)
 | _=>False
theorem opIndexAddr_ok {B : Nat} {w0 : World} (O : TabOk P T) {o : Oper} {t : TypeId} {x y : Operand} (ho : o.op = .indexAddr t x y) {k : XV→Option XLB→Prop} (hh : opIndexAddr T n h e t x y k) : ∃ v new,TStep P B w0 (h.map XLB.den) (toL n e) o v.den (Option.map XLB.den new)∧k v new:=by
 obtain ⟨ti,ht,hh⟩:=tyK_ok O hh
 obtain ⟨te,he,hh⟩:=tyK_ok O hh
 obtain ⟨kd,m,hm,hh⟩:=intK_ok hh
 have hx:=xev_den n e x
 have hy:=(xev_den n e y).symm.trans hm
 split at hh
 ·rename_i b els hp hv
  rw [hv] at hx
  obtain ⟨hk3,hh⟩:=isK_ok hh
  obtain ⟨hn,hh⟩:=posK_ok hh
  obtain ⟨j,c,hc,hmj,hl,hh⟩:=IdxG.ok hh
  exact ⟨_,none,S_index_sl ho hx.symm hy ht hk3 he hc hmj hl (by omega),hh⟩
 ·rename_i i hv
  rw [hv] at hx
  obtain ⟨e',sz,els,h1,hh⟩:=rowLenK_ok hh
  obtain ⟨hk3,hh⟩:=isK_ok hh
  obtain ⟨hsz,j,hmj,hj,hh⟩:=isK_ok hh
  exact ⟨_,none,S_index_row ho hx.symm h1 hy ht hk3 he hsz hmj hj,hh⟩
 ·rename_i i p sz' hv
  rw [hv] at hx
  obtain ⟨e',sz,els,hp,h1,_,hh⟩:=rowAtK_ok hh
  obtain ⟨hk3,hh⟩:=isK_ok hh
  obtain ⟨hsz,hh⟩:=isK_ok hh
  obtain ⟨h2,j,hmj,hj,hh⟩:=isK_ok hh
  subst h2
  exact ⟨_,none,S_index_win ho hx.symm h1 hy ht hk3 he hsz hmj hj,hh⟩
 ·rename_i i off hv
  rw [hv] at hx
  obtain ⟨hk2,j,hmj,hj,hh⟩:=isK_ok hh
  exact ⟨_,none,S_index_arr ho hx.symm hy ht hk2 he hmj hj,hh⟩
 ·rename_i g off hp hv
  rw [hv] at hx
  obtain ⟨hk2,j,hmj,hj,hh⟩:=isK_ok hh
  exact ⟨_,none,S_index_gl ho hx.symm hy ht hk2 he hmj hj,hh⟩
 ·rename_i ts hp hv
  rw [hv] at hx
  obtain ⟨hk2,j,hmj,hj,hh⟩:=isK_ok hh
  obtain ⟨hq,hh⟩:=dropP_ok hh
  exact ⟨_,none,S_index_eptr ho hx.symm hy ht hk2 he hmj hj,hh⟩
 ·exact hh.elim
theorem ik_eq {a b : IntKind} (h : (a == b) = true) : a = b:=by cases a <;> cases b <;> first | rfl | (revert h; decide)
inductive BinG (P : Program) (op : BinOp) (t : TypeId) (x y : Operand) (ux uy : Option Value) (k : Value→Prop) : Prop
 | mk {vx vy u : Value} (hx : ux = some vx) (hy : uy = some vy) (hr : ∀ w,(do eqGuard op t x y vx vy; binOp op t vx vy : Sem Value).run P w = .ok u w) (hk : k u) : BinG P op t x y ux uy k
def binInt (op : BinOp) (kd kd' : IntKind) (a b : Int) (k : XV→Option XLB→Prop) : Prop:=match op with
 | .shl=>bcase (decide (0 ≤ b)) (k (.p (.v (.int kd (kd.wrap (a * 2 ^ min b.toNat kd.bits)))) (nlv _)) none) False
 | .shr=>bcase (decide (0 ≤ b)) (k (.p (.v (.int kd (a.fdiv (2 ^ min b.toNat kd.bits)))) (nlv _)) none) False
 | .quo=>match kd == kd' with
  | true=>bcase (decide (b = 0)) False (k (.p (.v (.int kd (kd.wrap (a.tdiv b)))) (nlv _)) none)
  | false=>False
 | .rem=>match kd == kd' with
  | true=>bcase (decide (b = 0)) False (k (.p (.v (.int kd (a.tmod b))) (nlv _)) none)
  | false=>False
 | op=>match kd == kd' with
  | true=>match intRes op kd a b with
   | some u=>k (.p (.v u) (nlv _)) none
   | none=>False
  | false=>False
theorem binInt_ok {B : Nat} {w0 : World} {H : List LB} {s : List TV} {o : Oper} {op : BinOp} {t ty : TypeId} {x y : Operand} {kd kd' : IntKind} {a b : Int} (ho : o.op = .binOp op t x y ty) (hx : tev s x = .v (.int kd a)) (hy : tev s y = .v (.int kd' b)) {k : XV→Option XLB→Prop} (hh : binInt op kd kd' a b k) :
  ∃ v new,TStep P B w0 H s o v.den (Option.map XLB.den new)∧k v new:=by
 unfold binInt at hh
 split at hh
 ·obtain ⟨h1,hh⟩:=bcase_yes hh
  exact ⟨_,none,S_shl ho hx hy (by have:=of_decide_eq_true h1; omega),hh⟩
 ·obtain ⟨h1,hh⟩:=bcase_yes hh
  exact ⟨_,none,S_shr ho hx hy (by have:=of_decide_eq_true h1; omega),hh⟩
 ·split at hh
  ·rename_i h1
   obtain rfl:=ik_eq h1
   obtain ⟨h2,hh⟩:=bcase_no hh
   exact ⟨_,none,S_quo ho hx hy (of_decide_eq_false h2),hh⟩
  ·exact hh.elim
 ·split at hh
  ·rename_i h1
   obtain rfl:=ik_eq h1
   obtain ⟨h2,hh⟩:=bcase_no hh
   exact ⟨_,none,S_rem ho hx hy (of_decide_eq_false h2),hh⟩
  ·exact hh.elim
 ·split at hh
  ·rename_i h1
   obtain rfl:=ik_eq h1
   split at hh
   ·rename_i u hu
    exact ⟨_,none,S_int ho hx hy hu rfl,hh⟩
   ·exact hh.elim
  ·exact hh.elim
def nilB (T : Tab) (op : BinOp) (t : TypeId) (k : XV→Option XLB→Prop) : Prop:=tyK T t fun ti=>isK ti.k 7 (match op with
 | .eql=>k (.p (.v (.bool false)) (nlv _)) none
 | .neq=>k (.p (.v (.bool true)) (nlv _)) none
 | _=>False)
theorem nilB_ok {B : Nat} {w0 : World} {H : List LB} {s : List TV} (O : TabOk P T) {o : Oper} {op : BinOp} {t ty : TypeId} {x y : Operand} (ho : o.op = .binOp op t x y ty) (hx : (∃ i off,tev s x = .ptr i off)∨(∃ ts,tev s x = .eptr ts)) (hy : tev s y = .v (.pointer none)) {k : XV→Option XLB→Prop} (hh : nilB T op t k) :
  ∃ v new,TStep P B w0 H s o v.den (Option.map XLB.den new)∧k v new:=by
 obtain ⟨ti,ht,hh⟩:=tyK_ok O hh
 obtain ⟨hk7,hh⟩:=isK_ok hh
 split at hh
 ·exact ⟨_,none,S_ptr_nil false ho rfl hx hy ht hk7,hh⟩
 ·exact ⟨_,none,S_ptr_nil true ho rfl hx hy ht hk7,hh⟩
 ·exact hh.elim
def opBin (P : Program) (T : Tab) (n : Nat) (e : Env) (op : BinOp) (t : TypeId) (x y : Operand) (k : XV→Option XLB→Prop) : Prop:=match xev n e x,xev n e y with
 | .p (.v (.int kd a)) _,.p (.v (.int kd' b)) _=>binInt op kd kd' a b k
 | .p (.v (.bool a)) _,.p (.v (.bool b)) _=>tyK T t fun ti=>isK ti.k 6 (match op with
  | .eql=>k (.p (.v (.bool (a == b))) (nlv _)) none
  | .neq=>k (.p (.v (.bool (!(a == b)))) (nlv _)) none
  | _=>False)
 | .p (.v (.string a)) _,.p (.v (.string b)) _=>match op with
  | .add=>a.size + b.size ≤ 9223372036854775807∧k (.p (.v (.string (a ++ b))) (nlv _)) none
  | op=>match strRes op a b with
   | some u=>k (.p (.v u) (nlv _)) none
   | none=>False
 | .ptr _ _,.p (.v (.pointer none)) _=>nilB T op t k
 | .rp _ _ _ _,.p (.v (.pointer none)) _=>nilB T op t k
 | .p (.eptr _) _,.p (.v (.pointer none)) _=>nilB T op t k
 | a,b=>BinG P op t x y (tvVal a.den) (tvVal b.den) fun u=>k (.p (.v u) (nlv _)) none
theorem opBin_ok {B : Nat} {w0 : World} (O : TabOk P T) {o : Oper} {op : BinOp} {t ty : TypeId} {x y : Operand} (ho : o.op = .binOp op t x y ty) {k : XV→Option XLB→Prop} (hh : opBin P T n e op t x y k) : ∃ v new,TStep P B w0 (h.map XLB.den) (toL n e) o v.den (Option.map XLB.den new)∧k v new:=by
 have hx:=xev_den n e x
 have hy:=xev_den n e y
 unfold opBin at hh
 split at hh
 ·rename_i h1 h2
  rw [h1] at hx; rw [h2] at hy
  exact binInt_ok ho hx.symm hy.symm hh
 ·rename_i h1 h2
  rw [h1] at hx; rw [h2] at hy
  obtain ⟨ti,ht,hh⟩:=tyK_ok O hh
  obtain ⟨hk6,hh⟩:=isK_ok hh
  split at hh
  ·exact ⟨_,none,S_boolop ho hx.symm hy.symm rfl ht hk6,hh⟩
  ·exact ⟨_,none,S_boolneq ho hx.symm hy.symm rfl ht hk6,hh⟩
  ·exact hh.elim
 ·rename_i h1 h2
  rw [h1] at hx; rw [h2] at hy
  split at hh
  ·exact ⟨_,none,S_cat ho hx.symm hy.symm hh.1,hh.2⟩
  ·split at hh
   ·rename_i u hu
    exact ⟨_,none,S_str ho hx.symm hy.symm hu,hh⟩
   ·exact hh.elim
 ·rename_i h1 h2
  rw [h1] at hx; rw [h2] at hy
  exact nilB_ok O ho (.inl ⟨_,_,hx.symm⟩) hy.symm hh
 ·rename_i h1 h2
  rw [h1] at hx; rw [h2] at hy
  exact nilB_ok O ho (.inl ⟨_,_,hx.symm⟩) hy.symm hh
 ·rename_i h1 h2
  rw [h1] at hx; rw [h2] at hy
  exact nilB_ok O ho (.inr ⟨_,hx.symm⟩) hy.symm hh
 ·obtain ⟨h1,h2,h3,hk⟩:=hh
  rw [hx] at h1; rw [hy] at h2
  exact ⟨_,none,S_bin ho h1 h2 h3,hk⟩
def bndK (n : Nat) (e : Env) (lo : Option Operand) (d : Nat) (k : Nat→Prop) : Prop:=match lo with
 | none=>k d
 | some x=>intK (xev n e x) fun _ m=>∃ j : Nat,m = (j : Int)∧k j
theorem bndK_ok {lo : Option Operand} {d : Nat} {k : Nat→Prop} (hh : bndK n e lo d k) : ∃ l,Bnd (toL n e) lo l d∧k l:=by
 unfold bndK at hh
 split at hh
 ·exact ⟨_,rfl,hh⟩
 ·rename_i x
  obtain ⟨kd,m,hm,j,rfl,hk⟩:=intK_ok hh
  exact ⟨j,⟨kd,(xev_den n e x).symm.trans hm⟩,hk⟩
def partE (els : List (List TV)) (lo hi : Option Operand) (l m : Nat) : List (List TV):=match lo,hi with
 | none,none=>els
 | none,some _=>els.take m
 | some _,none=>els.drop l
 | some _,some _=>(els.take m).drop l
theorem partE_nl {els : List (List TV)} (hp : NlLL els) (lo hi : Option Operand) (l m : Nat) : NlLL (partE els lo hi l m):=by
 unfold partE; split
 ·exact hp
 ·exact hp.take _
 ·exact hp.drop _
 ·exact (hp.take _).drop _
theorem partE_eq {els : List (List TV)} {lo hi : Option Operand} {l m : Nat} {s : List TV} (hl : Bnd s lo l 0) (hm : Bnd s hi m els.length) : partE els lo hi l m = (els.take m).drop l:=by
 unfold partE; split
 ·simp only [Bnd] at hl hm; subst hl hm; simp
 ·simp only [Bnd] at hl; subst hl; simp
 ·simp only [Bnd] at hm; subst hm; simp
 ·rfl
def partK (els : List (List TV)) (hp : NlLL els) (lo hi : Option Operand) (l m : Nat) (k : (r : List (List TV))→NlLL r→Prop) : Prop:=match lo,hi with
 | none,none=>k els hp
 | none,some _=>k (els.take m) (hp.take m)
 | some _,none=>k (els.drop l) (hp.drop l)
 | some _,some _=>k ((els.take m).drop l) ((hp.take m).drop l)
theorem partK_ok {els : List (List TV)} {hp : NlLL els} {lo hi : Option Operand} {l m : Nat} {k : (r : List (List TV))→NlLL r→Prop} (hh : partK els hp lo hi l m k) : k (partE els lo hi l m) (partE_nl hp lo hi l m):=by
 unfold partK at hh
 split at hh <;> exact hh
theorem nl_b1 (l : List Int) : NlLL (l.map by1):=.map fun x _=>.cons (nlv _) .nil
theorem kp_ones (p : Nat→Bool) : ∀ cs : List TV,kpLL p (ones cs) = ones (kpL p cs)
 | []=>rfl
 | c :: cs=>by
  have:=kp_ones p cs
  simp only [ones,List.map_cons,kpLL,kpL] at this ⊢
  rw [this]
theorem fz_ones (j : Nat) (x : TV) : ∀ cs : List TV,fzLL j x (ones cs) = ones (fzL j x cs)
 | []=>rfl
 | c :: cs=>by
  have:=fz_ones j x cs
  simp only [ones,List.map_cons,fzLL,fzL] at this ⊢
  rw [this]
theorem nl_ones {cs : List TV} (h : NlL cs) : NlLL (ones cs):=⟨fun p=>by rw [kp_ones,h.k],fun j x=>by rw [fz_ones,h.f]⟩
def opSlice (T : Tab) (n : Nat) (e : Env) (t : TypeId) (x : Operand) (lo hi : Option Operand) (k : XV→Option XLB→Prop) : Prop:=tyK T t fun ti=>match xev n e x with
 | .p (.sl b els) hp=>isK ti.k 3 (tyK T ti.el fun te=>bndK n e lo 0 fun l=>bndK n e hi els.length fun m=>l ≤ m∧m ≤ els.length∧(∀ c ∈ els,c.length = te.n)∧partK els hp.sl lo hi l m fun r hr=>k (.p (.sl b r) hr.sl) none)
 | .p (.v (.string u)) _=>isK ti.k 4 (bndK n e lo 0 fun l=>bndK n e hi u.size fun m=>l ≤ m∧m ≤ u.size∧k (.p (.v (.string (u.extract l m))) (nlv _)) none)
 | .p (.eptr cs) hp=>match lo,hi with
  | none,none=>isK ti.k 2 (tyK T ti.el fun te=>isK te.n 1 (isK cs.length ti.len (isK (Nat.ble ti.len 1000000).toNat 1 (k (.p (.sl false (ones cs)) (nl_ones hp.eptr).sl) none))))
  | _,_=>False
 | _=>False
theorem opSlice_ok {B : Nat} {w0 : World} (O : TabOk P T) {o : Oper} {t : TypeId} {x : Operand} {lo hi : Option Operand} (ho : o.op = .slice t x lo hi none) {k : XV→Option XLB→Prop} (hh : opSlice T n e t x lo hi k) : ∃ v new,TStep P B w0 (h.map XLB.den) (toL n e) o v.den (Option.map XLB.den new)∧k v new:=by
 obtain ⟨ti,ht,hh⟩:=tyK_ok O hh
 have hx:=xev_den n e x
 split at hh
 ·rename_i b els hp hv
  rw [hv] at hx
  obtain ⟨hk3,hh⟩:=isK_ok hh
  obtain ⟨te,he,hh⟩:=tyK_ok O hh
  obtain ⟨l,hl,hh⟩:=bndK_ok hh
  obtain ⟨m,hm,h1,h2,h3,hh⟩:=bndK_ok hh
  refine ⟨_,none,?_,partK_ok hh⟩
  simp only [XV.den,partE_eq hl hm]
  exact S_slice_sl ho hx.symm ht hk3 he hl hm h1 h2 h3
 ·rename_i u hp hv
  rw [hv] at hx
  obtain ⟨hk4,hh⟩:=isK_ok hh
  obtain ⟨l,hl,hh⟩:=bndK_ok hh
  obtain ⟨m,hm,h1,h2,hh⟩:=bndK_ok hh
  exact ⟨_,none,S_slice_str ho hx.symm ht hk4 hl hm h1 h2,hh⟩
 ·rename_i cs hp hv
  rw [hv] at hx
  split at hh
  ·obtain ⟨hk2,hh⟩:=isK_ok hh
   obtain ⟨te,he,hh⟩:=tyK_ok O hh
   obtain ⟨h1,hh⟩:=isK_ok hh
   obtain ⟨h2,hh⟩:=isK_ok hh
   obtain ⟨h3,hh⟩:=isK_ok hh
   exact ⟨_,none,S_slice_eptr ho hx.symm ht hk2 he h1 h2 (by cases hb : Nat.ble ti.len 1000000 with
    | true=>have:=Nat.le_of_ble_eq_true hb; unfold maxLen; omega
    | false=>rw [hb] at h3; cases h3),hh⟩
  ·exact hh.elim
 ·exact hh.elim
def opSliceW (T : Tab) (n : Nat) (h : List XLB) (e : Env) (t : TypeId) (i p sz' : Nat) (lo hi : Option Operand) (k : XV→Option XLB→Prop) : Prop:=match lo,hi with
 | some y,none=>tyK T t fun ti=>tyK T ti.el fun te=>intK (xev n e y) fun _ m=>rowAtK h i fun _ sz els hp=>isK ti.k 3 (isK te.n sz (isK sz' sz (∃ l : Nat,m = (l : Int)∧p + l ≤ els.length∧k (.win i (p + l) sz') none)))
 | _,_=>False
theorem opSliceW_ok {B : Nat} {w0 : World} (O : TabOk P T) {o : Oper} {t : TypeId} {x : Operand} {lo hi : Option Operand} {i p sz' : Nat} (ho : o.op = .slice t x lo hi none) (hv : xev n e x = .win i p sz') {k : XV→Option XLB→Prop} (hh : opSliceW T n h e t i p sz' lo hi k) : ∃ v new,TStep P B w0 (h.map XLB.den) (toL n e) o v.den (Option.map XLB.den new)∧k v new:=by
 unfold opSliceW at hh
 have hx:=xev_den n e x
 rw [hv] at hx
 split at hh
 ·rename_i y
  obtain ⟨ti,ht,hh⟩:=tyK_ok O hh
  obtain ⟨te,he,hh⟩:=tyK_ok O hh
  obtain ⟨kd,m,hm,hh⟩:=intK_ok hh
  have hy:=(xev_den n e y).symm.trans hm
  obtain ⟨e',sz,els,hp,h1,_,hh⟩:=rowAtK_ok hh
  obtain ⟨hk3,hh⟩:=isK_ok hh
  obtain ⟨hsz,hh⟩:=isK_ok hh
  obtain ⟨h2,hh⟩:=isK_ok hh
  obtain ⟨l,hml,hl,hf⟩:=hh
  subst h2
  subst hml
  exact ⟨.win i (p + l) sz',none,S_slice_win ho hx.symm h1 hy ht hk3 he hsz hl,hf⟩
 ·exact hh.elim
def plK (T : Tab) : List (Nat × Nat)→(List (Nat × Nat)→Prop)→Prop
 | [],k=>k []
 | x :: fs,k=>tyK T x.2 fun tf=>plK T fs fun pl=>k ((x.1,tf.n) :: pl)
theorem plK_ok (O : TabOk P T) : ∀ {fs : List (Nat × Nat)} {k : List (Nat × Nat)→Prop},plK T fs k→∃ pl,PlOk P fs pl∧k pl
 | [],k,hh=>⟨[],rfl,hh⟩
 | (off,ft) :: fs,k,hh=>by
  obtain ⟨tf,ht,hh⟩:=tyK_ok O hh
  obtain ⟨pl,h1,hh⟩:=plK_ok O (k:=fun pl=>k ((off,tf.n) :: pl)) hh
  exact ⟨_,⟨tf.n,pl,tf,rfl,ht,rfl,h1⟩,hh⟩
def fillK (n : Nat) (e : Env) (pl : List (Nat × Nat)) : List (Nat × Operand)→List XV→(List XV→Prop)→Prop
 | [],cs,k=>k cs
 | p :: ps,cs,k=>match nthO pl p.1 with
  | none=>False
  | some q=>cellsK (xev n e p.2) fun l=>isK l.length q.2 (match Nat.ble (q.1 + l.length) cs.length with
   | true=>putsK cs q.1 l fun cs'=>fillK n e pl ps cs' k
   | false=>False)
theorem fillK_ok {pl : List (Nat × Nat)} : ∀ {ps : List (Nat × Operand)} {cs : List XV} {k : List XV→Prop},fillK n e pl ps cs k→∃ ls r,partsT (toL n e) ps = some ls∧fillT (pl[·]?) (XV.denL cs) ls = some (XV.denL r)∧k r
 | [],cs,k,hh=>⟨[],cs,rfl,rfl,hh⟩
 | (i,x) :: ps,cs,k,hh=>by
  simp only [fillK] at hh
  split at hh
  ·exact hh.elim
  ·rename_i q hq
   rw [nthO_eq] at hq
   obtain ⟨l,hl,hh⟩:=cellsK_ok hh
   obtain ⟨h1,hh⟩:=isK_ok hh
   split at hh
   ·rename_i h2
    have h2:=Nat.le_of_ble_eq_true h2
    obtain ⟨ls,r,h3,h4,h5⟩:=fillK_ok (putsK_ok (k:=fun cs'=>fillK n e pl ps cs' k) hh)
    rw [xev_den] at hl
    refine ⟨(i,XV.denL l) :: ls,r,by simp only [partsT,hl,h3],?_,h5⟩
    have e1 : (XV.denL l).length = l.length:=by rw [denL_map]; simp
    have e2 : (XV.denL cs).length = cs.length:=by rw [denL_map]; simp
    obtain ⟨off,size⟩:=q
    simp only at h1 h2 h4
    simp only [fillT,hq,e1,e2,h1,true_and]
    rw [if_pos (by omega),← denL_setsV]
    exact h4
   ·exact hh.elim
theorem S_buildArr {B : Nat} {w0 : World} {h : List LB} {s : List TV} {o : Oper} {t : TypeId} {parts : Array (Nat × Operand)} {z : Value} {zc r : List TV} {ls : List (Nat × List TV)} {ti te : TI} (ho : o.op = .build t parts) (ht : tiOf P t = some ti) (hk : ti.k = 2) (he : tiOf P ti.el = some te) (hz : (P.info? t).map (·.zero) = some (some z)) (hzc : cellsT (ofV z) = some zc)
  (hp : partsT s parts.toList = some ls) (hr : fillT (fun i=>some (i * te.n,te.n)) zc ls = some r) : TStep P B w0 h s o (.agg r) none:=.same fun ρ h' w a H R hh=>by
 obtain ⟨h3,h4⟩:=partsT_spec hp
 obtain ⟨vs',h5,h6⟩:=fill_dn (C:=cxOf B ρ h' w) ls (parts.toList.map fun (i,x)=>(i,a.eval x)) zc z.cells r (fun k=>by rw [h3 k]; simp [List.getElem?_map,Option.map_map,Function.comp_def]) (fun k p q hpk hqk=>by
  rw [List.getElem?_map,Option.map_eq_some_iff] at hqk
  obtain ⟨⟨i,x⟩,hq,rfl⟩:=hqk
  have hx : x ∈ o.op.operands.toList:=by
   have hm:=List.mem_of_getElem? hq
   simp only [ho,Op.operands,List.mem_map]
   exact ⟨(i,x),hm,rfl⟩
  exact R.cellsT (hh x hx) (h4 k p _ hpk hq)) (R.cellsT (ofV_dn _ z) hzc) hr
 have e1 : (parts.map fun (i,x)=>(i,a.eval x)).toList = parts.toList.map fun (i,x)=>(i,a.eval x):=by simp
 refine ⟨.agg vs',?_,by simp only [Dn]; exact ⟨vs'.toList,by simp,h6⟩⟩
 simp only [execOp,ho,Instr.build,Sem.run_bind,zero_run hz,Result.andThen_ok,run_underlying (ti_array ht hk),ti_size he,e1,h5,Sem.run_pure]
def arrPl (sz : Nat) : Nat→Nat→List (Nat × Nat)
 | 0,_=>[]
 | n + 1,off=>(off,sz) :: arrPl sz n (off + sz)
theorem arrPl_at {sz : Nat} : ∀ {n off i : Nat} {q : Nat × Nat},(arrPl sz n off)[i]? = some q→q = (off + i * sz,sz)
 | 0,off,i,q,h=>by simp [arrPl] at h
 | n + 1,off,0,q,h=>by simp [arrPl] at h; simp [← h]
 | n + 1,off,i + 1,q,h=>by
  simp only [arrPl,List.getElem?_cons_succ] at h
  rw [arrPl_at h]
  congr 1
  rw [Nat.add_mul]; omega
theorem fillT_mono {f g : Nat→Option (Nat × Nat)} (hfg : ∀ i q,f i = some q→g i = some q) : ∀ {ls : List (Nat × List TV)} {zc r : List TV},fillT f zc ls = some r→fillT g zc ls = some r
 | [],zc,r,h=>by simpa [fillT] using h
 | (i,l) :: ls,zc,r,h=>by
  simp only [fillT] at h ⊢
  cases hq : f i with
  | none=>rw [hq] at h; cases h
  | some q=>
   rw [hfg _ _ hq]
   rw [hq] at h
   simp only at h ⊢
   by_cases h1 : l.length = q.2∧q.1 + l.length ≤ zc.length
   ·rw [if_pos h1] at h ⊢
    exact fillT_mono hfg h
   ·rw [if_neg h1] at h; cases h
def opBuild (T : Tab) (n : Nat) (e : Env) (t : TypeId) (parts : Array (Nat × Operand)) (k : XV→Option XLB→Prop) : Prop:=zK T t fun ti z=>match Nat.beq ti.k 2 with
 | true=>tyK T ti.el fun te=>cellsK (xc z) fun zc0=>forceV zc0 fun zc=>fillK n e (arrPl te.n ti.len 0) parts.toList zc fun r=>k (.ag r) none
 | false=>isK ti.k 1 (cellsK (xc z) fun zc0=>forceV zc0 fun zc=>plK T ti.fs fun pl=>fillK n e pl parts.toList zc fun r=>k (.ag r) none)
theorem opBuild_ok {B : Nat} {w0 : World} (O : TabOk P T) {o : Oper} {t : TypeId} {parts : Array (Nat × Operand)} (ho : o.op = .build t parts) {k : XV→Option XLB→Prop} (hh : opBuild T n e t parts k) : ∃ v new,TStep P B w0 (h.map XLB.den) (toL n e) o v.den (Option.map XLB.den new)∧k v new:=by
 obtain ⟨ti,z,ht,hz,hh⟩:=zK_ok O hh
 split at hh
 ·rename_i hk2
  obtain ⟨te,he,hh⟩:=tyK_ok O hh
  obtain ⟨zc,hzc,hh⟩:=cellsK_ok hh
  rw [xc_den] at hzc
  obtain ⟨ls,r,h3,h4,h5⟩:=fillK_ok (forceV_ok (k:=fun zc=>fillK n e (arrPl te.n ti.len 0) parts.toList zc fun r=>k (.ag r) none) hh)
  exact ⟨_,none,S_buildArr ho ht (Nat.eq_of_beq_eq_true hk2) he hz hzc h3 (fillT_mono (fun i q hq=>by rw [arrPl_at hq]; simp) h4),h5⟩
 obtain ⟨hk1,hh⟩:=isK_ok hh
 obtain ⟨zc,hzc,hh⟩:=cellsK_ok hh
 have hh:=forceV_ok hh
 rw [xc_den] at hzc
 obtain ⟨pl,hpl,hh⟩:=plK_ok O hh
 obtain ⟨ls,r,h1,h2,hh⟩:=fillK_ok hh
 exact ⟨.ag r,none,S_build ho ht hk1 hz hzc hpl h1 h2,hh⟩
def nlK : List XV→((ts : List TV)→NlL ts→Prop)→Prop
 | [],k=>k [] .nil
 | v :: vs,k=>match v with
  | .p t hp=>nlK vs fun ts hq=>k (t :: ts) (.cons hp hq)
  | _=>False
theorem nlK_ok : ∀ {vs : List XV} {k : (ts : List TV)→NlL ts→Prop},nlK vs k→∃ ts hp,XV.denL vs = ts∧k ts hp
 | [],k,hh=>⟨[],.nil,rfl,hh⟩
 | v :: vs,k,hh=>by
  simp only [nlK] at hh
  split at hh
  ·rename_i t hp
   obtain ⟨ts,hq,h1,h2⟩:=nlK_ok (k:=fun ts hq=>k (t :: ts) (.cons hp hq)) hh
   exact ⟨t :: ts,.cons hp hq,by rw [XV.denL,h1]; rfl,h2⟩
  ·exact hh.elim
def rowsK (n : Nat) (e : Env) (sz : Nat) : Nat→List (Nat × Operand)→((els : List (List TV))→NlLL els→Prop)→Prop
 | _,[],k=>k [] .nil
 | i,p :: ps,k=>isK p.1 i (cellsK (xev n e p.2) fun vs=>isK vs.length sz (nlK vs fun ts hp=>rowsK n e sz (i + 1) ps fun els hq=>k (ts :: els) (.cons hp hq)))
theorem rowsK_ok {sz : Nat} : ∀ {ps : List (Nat × Operand)} {i : Nat} {k : (els : List (List TV))→NlLL els→Prop},rowsK n e sz i ps k→∃ xs els hp,ps = idxs i xs∧xs.length = ps.length∧cellsTs (toL n e) xs = some els∧(els.all (fun c=>decide (c.length = sz)) = true)∧k els hp
 | [],i,k,hh=>⟨[],[],.nil,rfl,rfl,rfl,rfl,hh⟩
 | (j,x) :: ps,i,k,hh=>by
  simp only [rowsK] at hh
  obtain ⟨rfl,hh⟩:=isK_ok hh
  obtain ⟨vs,hv,hh⟩:=cellsK_ok hh
  obtain ⟨hl,hh⟩:=isK_ok hh
  obtain ⟨ts,hp,hts,hh⟩:=nlK_ok hh
  obtain ⟨xs,els,hq,h1,h2,h3,h4,h5⟩:=rowsK_ok hh
  rw [xev_den] at hv
  refine ⟨x :: xs,ts :: els,.cons hp hq,by rw [idxs,← h1],by simp [h2],?_,?_,h5⟩
  ·simp only [cellsTs,hv,h3,hts]
  ·have : ts.length = sz:=by rw [← hl,← hts,denL_map]; simp
   simp only [List.all_cons,this,decide_true,Bool.true_and]
   exact h4
def opBuildSlice (T : Tab) (n : Nat) (h : List XLB) (e : Env) (t : TypeId) (len : Nat) (parts : Array (Nat × Operand)) (k : XV→Option XLB→Prop) : Prop:=tyK T t fun ti=>isK ti.k 3 (zK T ti.el fun te z=>isK parts.toList.length len (match Nat.ble (len * te.n) 16777216 with
 | true=>match Nat.ble len 9223372036854775807 with
  | true=>rowsK n e te.n 0 parts.toList fun els hp=>lenK h fun hl=>k (.row hl) (some (.row ti.el te.n els hp))
  | false=>False
 | false=>False))
theorem opBuildSlice_ok {B : Nat} {w0 : World} (O : TabOk P T) {o : Oper} {t : TypeId} {len : Nat} {parts : Array (Nat × Operand)} (ho : o.op = .buildSlice t len parts) {k : XV→Option XLB→Prop} (hh : opBuildSlice T n h e t len parts k) : ∃ v new,TStep P B w0 (h.map XLB.den) (toL n e) o v.den (Option.map XLB.den new)∧k v new:=by
 obtain ⟨ti,ht,hh⟩:=tyK_ok O hh
 obtain ⟨hk3,hh⟩:=isK_ok hh
 obtain ⟨te,z,he,hz,hh⟩:=zK_ok O hh
 obtain ⟨hl,hh⟩:=isK_ok hh
 split at hh
 ·rename_i h1
  split at hh
  ·rename_i h2
   obtain ⟨xs,els,hp,h3,h4,h5,h6,hh⟩:=rowsK_ok hh
   have hh:=lenK_ok hh
   have:=S_buildSlice (P:=P) (B:=B) (w0:=w0) (h:=h.map XLB.den) (s:=toL n e) ho ht hk3 he hz h3 (h4.trans hl) h5 h6 (Nat.le_of_ble_eq_true h1) (Nat.le_of_ble_eq_true h2)
   simp only [List.length_map] at this
   exact ⟨.row h.length,some (.row ti.el te.n els hp),this,hh⟩
  ·exact hh.elim
 ·exact hh.elim
def opMakeSlice (T : Tab) (n : Nat) (h : List XLB) (e : Env) (t : TypeId) (l c : Operand) (k : XV→Option XLB→Prop) : Prop:=tyK T t fun ti=>isK ti.k 3 (zK T ti.el fun te z=>posK te.n (cellsK (xc z) fun zv=>isK zv.length te.n (nlK zv fun zc hz=>intK (xev n e l) fun _ N=>intK (xev n e c) fun _ M=>
 ∃ a b : Nat,N = (a : Int)∧M = (b : Int)∧a ≤ b∧b * te.by_ ≤ 140737488355328∧b ≤ 9223372036854775807∧lenK h fun hl=>k (.row hl) (some (.row ti.el te.n (List.replicate a zc) (.replicate a hz))))))
theorem opMakeSlice_ok {B : Nat} {w0 : World} (O : TabOk P T) {o : Oper} {t : TypeId} {l c : Operand} (ho : o.op = .makeSlice t l c) {k : XV→Option XLB→Prop} (hh : opMakeSlice T n h e t l c k) : ∃ v new,TStep P B w0 (h.map XLB.den) (toL n e) o v.den (Option.map XLB.den new)∧k v new:=by
 obtain ⟨ti,ht,hh⟩:=tyK_ok O hh
 obtain ⟨hk3,hh⟩:=isK_ok hh
 obtain ⟨te,z,he,hz,hh⟩:=zK_ok O hh
 obtain ⟨hn,hh⟩:=posK_ok hh
 obtain ⟨zv,hzv,hh⟩:=cellsK_ok hh
 rw [xc_den] at hzv
 obtain ⟨hl,hh⟩:=isK_ok hh
 obtain ⟨zc,hzc,hts,hh⟩:=nlK_ok hh
 rw [hts] at hzv
 obtain ⟨k1,N,hN,hh⟩:=intK_ok hh
 obtain ⟨k2,M,hM,a,b,ha,hb,h1,h2,h3,hh⟩:=intK_ok hh
 have hzl : zc.length = te.n:=by rw [← hts,denL_map,← hl]; simp
 have:=S_makeSlice (P:=P) (B:=B) (w0:=w0) (h:=h.map XLB.den) (s:=toL n e) ho ht hk3 he hz hzv hzl hn ((xev_den n e l).symm.trans hN) ((xev_den n e c).symm.trans hM) ha hb h1 h2 h3
 simp only [List.length_map] at this
 exact ⟨.row h.length,some (.row ti.el te.n (List.replicate a zc) (.replicate a hzc)),this,lenK_ok hh⟩
def evK (n : Nat) (e : Env) : List Operand→(List XV→Prop)→Prop
 | [],k=>k []
 | x :: xs,k=>fv (xev n e x) fun v=>evK n e xs fun vs=>k (v :: vs)
theorem evK_ok : ∀ {xs : List Operand} {k : List XV→Prop},evK n e xs k→k (xs.map (xev n e))
 | [],_,hh=>hh
 | x :: xs,k,hh=>evK_ok (k:=fun vs=>k (xev n e x :: vs)) (fv_ok hh)
theorem evL_den (xs : List Operand) : XV.denL (xs.map (xev n e)) = xs.map (tev (toL n e)):=by
 rw [denL_map,List.map_map]
 exact List.map_congr_left fun x _=>xev_den n e x
def XMeets (P : Program) (f : FuncId) (args : List TV) (r : XV) : Prop:=entB P f = true∧TMeets P f args r.den
mutual
def internX (n : Nat) : XV→XV
 | .ow _ _ _ _=>.row n
 | .pin u t h=>.pin u t h
 | .ag vs=>.ag (internXL n vs)
 | .tu vs=>.tu (internXL n vs)
 | .p t h=>.p t h
 | .any=>.any
 | .row i=>.row i
 | .ptr i off=>.ptr i off
 | .rp i k sz j=>.rp i k sz j
 | .fu f vs=>.fu f vs
 | .z i t h=>.z i t h
 | .win i k sz=>.win i k sz
def internXL (n : Nat) : List XV→List XV
 | []=>[]
 | v :: vs=>internX n v :: internXL n vs
end
mutual
def ownX : XV→Option XLB
 | .ow e sz els h=>some (.row e sz els h)
 | .ag vs=>ownXL vs
 | .tu vs=>ownXL vs
 | _=>none
def ownXL : List XV→Option XLB
 | []=>none
 | v :: vs=>match ownX v with
  | some b=>some b
  | none=>ownXL vs
end
mutual
def rawT : TV→Bool
 | .osl _ _ _=>false
 | .agg ts=>rawTL ts
 | .tup ts=>rawTL ts
 | _=>true
def rawTL : List TV→Bool
 | []=>true
 | t :: ts=>rawT t && rawTL ts
end
mutual
def rawX : XV→Bool
 | .p t _=>rawT t
 | .ag vs=>rawXL vs
 | .tu vs=>rawXL vs
 | _=>true
def rawXL : List XV→Bool
 | []=>true
 | v :: vs=>rawX v && rawXL vs
end
mutual
theorem intern_raw (n : Nat) : ∀ t : TV,rawT t = true→intern n t = t∧theRow t = none
 | .osl _ _ _,h=>by simp [rawT] at h
 | .agg ts,h=>by simp only [rawT] at h; have:=internL_raw n ts h; simp only [intern,theRow,this,and_self]
 | .tup ts,h=>by simp only [rawT] at h; have:=internL_raw n ts h; simp only [intern,theRow,this,and_self]
 | .any,_ | .v _,_ | .nil_,_ | .fn _ _,_ | .ptr _ _,_ | .row _,_ | .sl _ _,_ | .eptr _,_ | .z _ _,_ | .win _ _ _,_=>⟨rfl,rfl⟩
theorem internL_raw (n : Nat) : ∀ ts : List TV,rawTL ts = true→internL n ts = ts∧theRowL ts = none
 | [],_=>⟨rfl,rfl⟩
 | t :: ts,h=>by
  simp only [rawTL,Bool.and_eq_true] at h
  have h1:=intern_raw n t h.1
  have h2:=internL_raw n ts h.2
  simp only [internL,theRowL,h1,h2,and_self]
end
mutual
theorem internX_den (n : Nat) : ∀ v : XV,rawX v = true→(internX n v).den = intern n v.den∧(ownX v).map XLB.den = theRow v.den
 | .ow _ _ _ _,_=>⟨rfl,rfl⟩
 | .p t h,hr=>by
  simp only [rawX] at hr
  have:=intern_raw n t hr
  simp only [internX,XV.den,ownX,this,Option.map_none,and_self]
 | .ag vs,hr=>by
  simp only [rawX] at hr
  have:=internXL_den n vs hr
  simp only [internX,XV.den,ownX,intern,theRow,this,and_self]
 | .tu vs,hr=>by
  simp only [rawX] at hr
  have:=internXL_den n vs hr
  simp only [internX,XV.den,ownX,intern,theRow,this,and_self]
 | .any,_ | .row _,_ | .ptr _ _,_ | .rp _ _ _ _,_ | .fu _ _,_ | .pin _ _ _,_ | .z _ _ _,_ | .win _ _ _,_=>⟨rfl,rfl⟩
theorem internXL_den (n : Nat) : ∀ vs : List XV,rawXL vs = true→XV.denL (internXL n vs) = internL n (XV.denL vs)∧(ownXL vs).map XLB.den = theRowL (XV.denL vs)
 | [],_=>⟨rfl,rfl⟩
 | v :: vs,hr=>by
  simp only [rawXL,Bool.and_eq_true] at hr
  have h1:=internX_den n v hr.1
  have h2:=internXL_den n vs hr.2
  refine ⟨by simp only [internXL,XV.denL,internL,h1,h2],?_⟩
  simp only [ownXL,XV.denL,theRowL]
  rw [← h1.2,← h2.2]
  cases ownX v <;> rfl
end
mutual
def zP (n : Nat) : (t : TV)→Nl t→XV
 | .v x,h=>.p (.v x) h
 | .nil_,h=>.p .nil_ h
 | .agg ts,h=>.ag (zPL n ts h.agg)
 | .tup ts,h=>.tu (zPL n ts h.tup)
 | .sl b els,h=>.z n (.sl b els) h
 | _,_=>.any
def zPL (n : Nat) : (ts : List TV)→NlL ts→List XV
 | [],_=>[]
 | t :: ts,h=>zP n t h.head :: zPL n ts h.tail
end
mutual
def zX (n : Nat) : XV→XV
 | .p t h=>zP n t h
 | .ag vs=>.ag (zXL n vs)
 | .tu vs=>.tu (zXL n vs)
 | _=>.any
def zXL (n : Nat) : List XV→List XV
 | []=>[]
 | v :: vs=>zX n v :: zXL n vs
end
mutual
def zOkT : TV→Bool
 | .v _=>true
 | .nil_=>true
 | .any=>true
 | .sl _ _=>true
 | .agg ts=>zOkTL ts
 | .tup ts=>zOkTL ts
 | _=>false
def zOkTL : List TV→Bool
 | []=>true
 | t :: ts=>zOkT t && zOkTL ts
end
mutual
def zOk : XV→Bool
 | .p t _=>zOkT t
 | .any=>true
 | .ag vs=>zOkL vs
 | .tu vs=>zOkL vs
 | _=>false
def zOkL : List XV→Bool
 | []=>true
 | v :: vs=>zOk v && zOkL vs
end
mutual
theorem zP_den (n : Nat) : ∀ (t : TV) (h : Nl t),zOkT t = true→(zP n t h).den = zt n t
 | .v x,h,_=>rfl
 | .nil_,h,_=>rfl
 | .any,h,_=>rfl
 | .sl b els,h,_=>rfl
 | .agg ts,h,ho=>by simp only [zOkT] at ho; simp only [zP,XV.den,zt,zPL_den n ts h.agg ho]
 | .tup ts,h,ho=>by simp only [zOkT] at ho; simp only [zP,XV.den,zt,zPL_den n ts h.tup ho]
 | .fn _ _,h,ho | .ptr _ _,h,ho | .row _,h,ho | .eptr _,h,ho | .osl _ _ _,h,ho | .z _ _,h,ho | .win _ _ _,h,ho=>by simp [zOkT] at ho
theorem zPL_den (n : Nat) : ∀ (ts : List TV) (h : NlL ts),zOkTL ts = true→XV.denL (zPL n ts h) = ztL n ts
 | [],_,_=>rfl
 | t :: ts,h,ho=>by
  simp only [zOkTL,Bool.and_eq_true] at ho
  simp only [zPL,XV.denL,ztL,zP_den n t h.head ho.1,zPL_den n ts h.tail ho.2]
end
mutual
theorem zX_den (n : Nat) : ∀ v : XV,zOk v = true→(zX n v).den = zt n v.den
 | .p t h,ho=>zP_den n t h ho
 | .any,_=>rfl
 | .ag vs,ho=>by simp only [zOk] at ho; simp only [zX,XV.den,zt,zXL_den n vs ho]
 | .tu vs,ho=>by simp only [zOk] at ho; simp only [zX,XV.den,zt,zXL_den n vs ho]
 | .row _,ho | .ptr _ _,ho | .rp _ _ _ _,ho | .fu _ _,ho | .ow _ _ _ _,ho | .pin _ _ _,ho | .z _ _ _,ho | .win _ _ _,ho=>by simp [zOk] at ho
theorem zXL_den (n : Nat) : ∀ vs : List XV,zOkL vs = true→XV.denL (zXL n vs) = ztL n (XV.denL vs)
 | [],_=>rfl
 | v :: vs,ho=>by
  simp only [zOkL,Bool.and_eq_true] at ho
  simp only [zXL,XV.denL,ztL,zX_den n v ho.1,zXL_den n vs ho.2]
end
inductive CallG (P : Program) (f : FuncId) (ts : List TV) (n : Nat) (k : XV→Option XLB→Prop) (zz : Bool) : Prop
 | mk {r : XV} (hm : XMeets P f ts r) (hr : rawX r = true) (hk : match ownX r with
   | none=>fv r fun v=>k v none
   | some b=>fv (internX n r) fun v=>k v (some b)) : CallG P f ts n k zz
 | ext {u : Value} (hm : ExtM P f ts u) (hk : k (.p (.v u) (nlv _)) none) : CallG P f ts n k zz
 | cl {e0 : TypeId} {sz : Nat} {b : Bool} {els : List (List TV)} (hp : NlLL els) (hm : CloneC P f e0 sz) (hts : ts = [.sl b els]) (hl : ∀ c ∈ els,c.length = sz) (h1 : ∀ c ∈ els,c.all TV.one = true) (hn : els.length ≤ 1000000) (hk : k (.row n) (some (.row e0 sz els hp))) (hz : zz = false:=by rfl) : CallG P f ts n k zz
 | z {r : XV} (hm : XMeets P f ts r) (hz : zOk r = true) (hp : Pu r.den) (hk : fv (zX n r) fun v=>k v (some (.ext zoneX))) : CallG P f ts n k zz
def opCall (P : Program) (T : Tab) (n : Nat) (h : List XLB) (e : Env) (cl : Call) (k : XV→Option XLB→Prop) : Prop:=match cl with
 | { callee:=.builtin .len,args:=a,argTypes:=t }=>match a.toList,t.toList with
  | [x],[t]=>tyK T t fun ti=>match xev n e x with
   | .p (.sl _ els) _=>isK ti.k 3 (k (.p (.v (.int .i64 els.length)) (nlv _)) none)
   | .p .nil_ _=>isK ti.k 3 (k (.p (.v (.int .i64 0)) (nlv _)) none)
   | .row i=>rowLenK h i fun _ _ len=>isK ti.k 3 (k (.p (.v (.int .i64 len)) (nlv _)) none)
   | .win i p _=>rowAtK h i fun _ _ els _=>isK ti.k 3 (k (.p (.v (.int .i64 ((els.length - p : Nat) : Int))) (nlv _)) none)
   | .p (.v (.string u)) _=>isK ti.k 4 (k (.p (.v (.int .i64 u.size)) (nlv _)) none)
   | _=>isK ti.k 2 (k (.p (.v (.int .i64 ti.len)) (nlv _)) none)
  | _,_=>False
 | { callee:=.builtin .min,args:=a,argTypes:=t }=>match a.toList,t.toList with
  | [x,y],[_,_]=>intK (xev n e x) fun kd p=>intK (xev n e y) fun kd' q=>match kd == kd' with
   | true=>k (.p (.v (.int kd (min p q))) (nlv _)) none
   | false=>False
  | _,_=>False
 | { callee:=.builtin .max,args:=a,argTypes:=t }=>match a.toList,t.toList with
  | [x,y],[_,_]=>intK (xev n e x) fun kd p=>intK (xev n e y) fun kd' q=>match kd == kd' with
   | true=>k (.p (.v (.int kd (max p q))) (nlv _)) none
   | false=>False
  | _,_=>False
 | { callee:=.value fop,args:=a,argTypes:=_ }=>match xev n e fop with
  | .fu (.func f) vs=>match argPL (h.map XLB.den) (a.toList.map (fun x=>(xev n e x).den) ++ XV.denL vs) with
   | some ts=>lenK h fun hl=>CallG P f ts hl k ((a.toList.map (fun x=>(xev n e x).den) ++ XV.denL vs).any isZ)
   | none=>False
  | .p (.fn (.func f) cs) _=>match argPL (h.map XLB.den) (a.toList.map (fun x=>(xev n e x).den) ++ cs) with
   | some ts=>lenK h fun hl=>CallG P f ts hl k ((a.toList.map (fun x=>(xev n e x).den) ++ cs).any isZ)
   | none=>False
  | _=>False
 | _=>False
theorem arr1 {α : Type} {a : Array α} {x : α} (h : a.toList = [x]) : a = #[x]:=by cases a; simp at h; rw [h]
theorem arr2 {α : Type} {a : Array α} {x y : α} (h : a.toList = [x,y]) : a = #[x,y]:=by cases a; simp at h; rw [h]
theorem callG_ok {B : Nat} {w0 : World} {o : Oper} {cl : Call} {fop : Operand} {f : FuncId} {caps ts : List TV} (ho : o.op = .call cl) (hcl : cl.callee = .value fop) (hf : tev (toL n e) fop = .fn (.func f) caps)
  (ha : argPL (h.map XLB.den) (cl.args.toList.map (tev (toL n e)) ++ caps) = some ts) {k : XV→Option XLB→Prop} {zz : Bool} (hzz : (cl.args.toList.map (tev (toL n e)) ++ caps).any isZ = zz) (hh : CallG P f ts h.length k zz) : ∃ v new,TStep P B w0 (h.map XLB.den) (toL n e) o v.den (Option.map XLB.den new)∧k v new:=by
 rcases hh with ⟨hm,hr,hk⟩ | ⟨hm,hk⟩ | ⟨hp,hm,hts,hl,h1,hn,hk,hz⟩ | ⟨hm,hz,hp,hk⟩
 rotate_left
 ·exact ⟨_,none,S_call_ext ho hcl hf ha hm,hk⟩
 ·subst hts
  have:=S_clone (P:=P) (B:=B) (w0:=w0) (h:=h.map XLB.den) (s:=toL n e) ho hcl hf ha hm hl h1 hn (hzz.trans hz)
  simp only [List.length_map] at this
  exact ⟨.row h.length,some (.row _ _ _ hp),this,hk⟩
 ·rename_i r
  have:=S_call_z (P:=P) (B:=B) (w0:=w0) (h:=h.map XLB.den) (s:=toL n e) ho hcl hf hm.1 ha hm.2 hp
  simp only [List.length_map] at this
  rw [← zX_den h.length r hz] at this
  exact ⟨zX h.length r,some (.ext zoneX),this,fv_ok (k:=fun v=>k v (some (.ext zoneX))) hk⟩
 rename_i r
 have h1:=internX_den h.length r hr
 split at hk
 ·exact ⟨r,none,S_call ho hcl hf hm.1 ha hm.2,fv_ok hk⟩
 ·rename_i b hb
  rw [hb] at h1
  have:=S_call_row (P:=P) (B:=B) (w0:=w0) (h:=h.map XLB.den) (s:=toL n e) ho hcl hf hm.1 ha hm.2 h1.2.symm
  simp only [List.length_map] at this
  rw [← h1.1] at this
  exact ⟨_,some b,this,fv_ok (k:=fun v=>k v (some b)) hk⟩
theorem opCall_ok {B : Nat} {w0 : World} (O : TabOk P T) {o : Oper} {cl : Call} (ho : o.op = .call cl) {k : XV→Option XLB→Prop} (hh : opCall P T n h e cl k) : ∃ v new,TStep P B w0 (h.map XLB.den) (toL n e) o v.den (Option.map XLB.den new)∧k v new:=by
 unfold opCall at hh
 split at hh
 ·rename_i a t
  split at hh
  ·rename_i x t ha htt
   obtain rfl:=arr1 ha
   obtain rfl:=arr1 htt
   obtain ⟨ti,ht,hh⟩:=tyK_ok O hh
   have hx:=xev_den n e x
   split at hh
   ·rename_i b els hp hv
    rw [hv] at hx
    obtain ⟨hk3,hh⟩:=isK_ok hh
    exact ⟨_,none,S_len ho rfl ht hk3 (.inl ⟨_,_,hx.symm,rfl⟩),hh⟩
   ·rename_i hp hv
    rw [hv] at hx
    obtain ⟨hk3,hh⟩:=isK_ok hh
    exact ⟨_,none,S_len (n:=0) ho rfl ht hk3 (.inr (.inr ⟨hx.symm,rfl⟩)),hh⟩
   ·rename_i i hv
    rw [hv] at hx
    obtain ⟨e',sz,els,h1,hh⟩:=rowLenK_ok hh
    obtain ⟨hk3,hh⟩:=isK_ok hh
    exact ⟨_,none,S_len ho rfl ht hk3 (.inr (.inl ⟨_,_,_,_,hx.symm,h1,rfl⟩)),hh⟩
   ·rename_i i p sz' hv
    rw [hv] at hx
    obtain ⟨e',sz,els,hp,h1,_,hh⟩:=rowAtK_ok hh
    obtain ⟨hk3,hh⟩:=isK_ok hh
    exact ⟨_,none,S_len_win ho rfl ht hk3 hx.symm h1,hh⟩
   ·rename_i u hp hv
    rw [hv] at hx
    obtain ⟨hk4,hh⟩:=isK_ok hh
    exact ⟨_,none,S_len_str ho rfl ht hk4 hx.symm,hh⟩
   ·obtain ⟨hk2,hh⟩:=isK_ok hh
    exact ⟨_,none,S_len_arr ho rfl ht hk2,hh⟩
  ·exact hh.elim
 ·rename_i a t
  split at hh
  ·rename_i x y t1 t2 ha htt
   obtain rfl:=arr2 ha
   obtain rfl:=arr2 htt
   obtain ⟨kd,p,hp,hh⟩:=intK_ok hh
   obtain ⟨kd',q,hq,hh⟩:=intK_ok hh
   split at hh
   ·rename_i h1
    obtain rfl:=ik_eq h1
    exact ⟨_,none,S_min (r:=0) ho rfl ((xev_den n e x).symm.trans hp) ((xev_den n e y).symm.trans hq) rfl,hh⟩
   ·exact hh.elim
  ·exact hh.elim
 ·rename_i a t
  split at hh
  ·rename_i x y t1 t2 ha htt
   obtain rfl:=arr2 ha
   obtain rfl:=arr2 htt
   obtain ⟨kd,p,hp,hh⟩:=intK_ok hh
   obtain ⟨kd',q,hq,hh⟩:=intK_ok hh
   split at hh
   ·rename_i h1
    obtain rfl:=ik_eq h1
    exact ⟨_,none,S_max (r:=0) ho rfl ((xev_den n e x).symm.trans hp) ((xev_den n e y).symm.trans hq) rfl,hh⟩
   ·exact hh.elim
  ·exact hh.elim
 ·rename_i fop a t
  have hf:=xev_den n e fop
  have he : a.toList.map (fun x=>(xev n e x).den) = a.toList.map (tev (toL n e)):=List.map_congr_left fun x _=>xev_den n e x
  rw [he] at hh
  split at hh
  ·rename_i f vs hv
   rw [hv] at hf
   split at hh
   ·rename_i ts hts
    exact callG_ok ho rfl hf.symm hts rfl (lenK_ok hh)
   ·exact hh.elim
  ·rename_i f cs hp hv
   rw [hv] at hf
   split at hh
   ·rename_i ts hts
    exact callG_ok ho rfl hf.symm hts rfl (lenK_ok hh)
   ·exact hh.elim
  ·exact hh.elim
 ·exact hh.elim
theorem S_index_agg {B : Nat} {w0 : World} {h : List LB} {s : List TV} {o : Oper} {tv : TV} {t : TypeId} {x y : Operand} {cs : List TV} {k : IntKind} {m : Int} {j : Nat} {ti te : TI} (ho : o.op = .index t x y) (hx : tev s x = .agg cs) (hy : tev s y = .v (.int k m)) (ht : tiOf P t = some ti) (hk : ti.k = 2) (he : tiOf P ti.el = some te) (hm : m = (j : Int)) (hj : j < ti.len)
  (hp : packT te.ag te.n (cs.drop (j * te.n)) = some tv) : TStep P B w0 h s o tv none:=.same fun ρ h' w a H R hh=>by
 have h1:=hh x (by simp [ho,Op.operands])
 have h2:=hh y (by simp [ho,Op.operands])
 rw [hx] at h1
 rw [hy] at h2
 simp only [Dn] at h1 h2
 obtain ⟨vs,h3,h4⟩:=h1
 subst hm
 obtain ⟨u,h8,h9⟩:=part_run (P:=P) he hp h4 w
 exact ⟨u,by simp [execOp,ho,h3,h2,Instr.index,asInt_run,run_underlying (ti_array ht hk),ti_size he,hj,h8],h9⟩
def opIndex (T : Tab) (n : Nat) (e : Env) (t : TypeId) (x y : Operand) (k : XV→Option XLB→Prop) : Prop:=tyK T t fun ti=>intK (xev n e y) fun kd m=>match xev n e x with
 | .p (.v (.string u)) _=>isK ti.k 4 (∃ (j : Nat) (c : UInt8),u[j]? = some c∧m = (j : Int)∧k (.p (.v (.int .u8 c.toNat)) (nlv _)) none)
 | .ag vs=>isK ti.k 2 (tyK T ti.el fun te=>∃ j : Nat,m = (j : Int)∧j < ti.len∧dropK (j * te.n) vs fun r=>packK te.ag te.n r fun v=>k v none)
 | _=>False
theorem opIndex_ok {B : Nat} {w0 : World} (O : TabOk P T) {o : Oper} {t : TypeId} {x y : Operand} (ho : o.op = .index t x y) {k : XV→Option XLB→Prop} (hh : opIndex T n e t x y k) : ∃ v new,TStep P B w0 (h.map XLB.den) (toL n e) o v.den (Option.map XLB.den new)∧k v new:=by
 obtain ⟨ti,ht,hh⟩:=tyK_ok O hh
 obtain ⟨kd,m,hm,hh⟩:=intK_ok hh
 have hx:=xev_den n e x
 have hy:=(xev_den n e y).symm.trans hm
 split at hh
 ·rename_i u hp hv
  rw [hv] at hx
  obtain ⟨hk4,hh⟩:=isK_ok hh
  obtain ⟨j,c,hj,hmj,hh2⟩:=hh
  subst hmj
  exact ⟨_,none,S_index_str ho hx.symm hy ht hk4 hj,hh2⟩
 ·rename_i vs hv
  rw [hv] at hx
  obtain ⟨hk2,hh⟩:=isK_ok hh
  obtain ⟨te,he,j,hmj,hj,hh⟩:=tyK_ok O hh
  obtain ⟨v,hp,hk⟩:=packK_ok (dropK_ok (k:=fun r=>packK te.ag te.n r fun v=>k v none) hh)
  exact ⟨v,none,S_index_agg ho hx.symm hy ht hk2 he hmj hj (by rw [← hp,denL_map,denL_map,List.map_drop]),hk⟩
 ·exact hh.elim
inductive MapTG (P : Program) (t : TypeId) (k : TypeId→TypeId→Prop) : Prop
 | mk {kt et : TypeId} (ht : P.underlying t = some (.map kt et)) (hk : k kt et) : MapTG P t k
inductive LookG (P : Program) (t : TypeId) (X : Ext) (x : TV) (k : Value→Prop) : Prop
 | mk {kt et : TypeId} {n : Nat} {D zd : DataW Unit} {key z u : Value} {kl : Lit} {zp : List MemPlace} (hX : X = mapX P kt et n D) (hx : ∀ (C : Cx) (v : Value),Dn C x v→v = key) (K : Maps.Keyed P kt) (ht : P.underlying t = some (.map kt et))
   (hz : ∀ w,(zeroValue et).run P w = .ok z w) (hzd : plainElem (H:=Unit) P et z = some (zd,zp)) (hkey : keyOf P kt key = some kl) (hu : ∀ v ps,plainElem (H:=Unit) P et v = some (D.atKey kl zd,ps)→v = u) (hk : k u) : LookG P t X x k
def XS (P : Program) (T : Tab) (n : Nat) (h : List XLB) (e : Env) (o : Op) (k : XV→Option XLB→Prop) : Prop:=match o with
 | .move x=>fv (xev n e x) fun v=>k v none
 | .assign x=>fv (xev n e x) fun v=>k v none
 | .pick c x y=>boolK (xev n e c) fun b=>bcase b (fv (xev n e x) fun v=>k v none) (fv (xev n e y) fun v=>k v none)
 | .box t x=>cellsK (xev n e x) fun cs=>lenK h fun hl=>k (.ptr hl 0) (some (.cells t cs))
 | .alloc t=>zK T t fun _ z=>cellsK (xc z) fun cs0=>forceV cs0 fun cs=>lenK h fun hl=>k (.ptr hl 0) (some (.cells t cs))
 | .load t x=>opLoad T n h e t x k
 | .fieldAddr t x f=>opFieldAddr T n e t x f k
 | .field t x f=>opField T n e t x f k
 | .extract x i=>match xev n e x with
  | .tu vs=>match nthO vs i with
   | some v=>fv v fun v=>k v none
   | none=>False
  | .p (.tup ts) hp=>match nthO (unp ts hp.tup) i with
   | some v=>fv v fun v=>k v none
   | none=>False
  | _=>False
 | .nilCheck x=>match xev n e x with
  | .ptr i off=>k (.ptr i off) none
  | .rp i kk sz j=>k (.rp i kk sz j) none
  | .p (.eptr ts) hp=>k (.p (.eptr ts) hp) none
  | _=>False
 | .unOp op t x=>match op with
  | .not=>boolK (xev n e x) fun b=>k (.p (.v (.bool (!b))) (nlv _)) none
  | .neg=>intK (xev n e x) fun kd m=>k (.p (.v (.int kd (kd.wrap (0 - m)))) (nlv _)) none
  | _=>False
 | .binOp op t x y _=>opBin P T n e op t x y k
 | .convert s d x=>tyK T s fun tsr=>tyK T d fun td=>match xev n e x with
  | .p (.v (.int _ m)) _=>match td.ik with
   | some kd=>k (.p (.v (.int kd (kd.wrap m))) (nlv _)) none
   | none=>isK td.k 4 (k (.p (.v (.string (Utf8.encode m))) (nlv _)) none)
  | .p (.v (.string u)) _=>match Nat.beq td.k 4 with
   | true=>k (.p (.v (.string u)) (nlv _)) none
   | false=>isK td.k 3 (tyK T td.el fun te=>match te.ik with
    | some .u8=>u.size ≤ 9223372036854775807∧k (.p (.sl false ((numS u).map by1)) (nl_b1 _).sl) none
    | _=>False)
  | v=>match argT (h.map XLB.den) v.den with
   | some (.sl _ els)=>isK td.k 4 (isK tsr.k 3 (tyK T tsr.el fun te=>match te.ik with
    | some .u8=>∃ l : List Int,els = l.map by1∧k (.p (.v (.string (strOfNums l))) (nlv _)) none
    | _=>False))
   | _=>False
 | .build t parts=>opBuild T n e t parts k
 | .buildSlice t len parts=>opBuildSlice T n h e t len parts k
 | .makeSlice t l c=>opMakeSlice T n h e t l c k
 | .makeFunc f fs cs=>match fs.toList with
  | []=>evK n e cs.toList fun vs=>k (.fu f vs) none
  | _ :: _=>False
 | .indexAddr t x y=>opIndexAddr T n h e t x y k
 | .index t x y=>opIndex T n e t x y k
 | .slice t x lo hi mx=>match mx with
  | none=>match xev n e x with
   | .win i p sz=>opSliceW T n h e t i p sz lo hi k
   | _=>opSlice T n e t x lo hi k
  | some _=>False
 | .call cl=>opCall P T n h e cl k
 | .makeMap t none=>MapTG P t fun kt et=>lenK h fun hl=>k (.row hl) (some (.ext (mapX P kt et 0 (.map []))))
 | .lookup t m x false=>match xev n e m with
  | .row i=>match hget h i with
   | .ext X=>LookG P t X (xev n e x).den fun u=>k (.p (.v u) (nlv _)) none
   | _=>False
  | _=>False
 | _=>False
theorem XS_ok {B : Nat} {w0 : World} (O : TabOk P T) {o : Oper} {k : XV→Option XLB→Prop} (hh : XS P T n h e o.op k) : ∃ v new,TStep P B w0 (h.map XLB.den) (toL n e) o v.den (Option.map XLB.den new)∧k v new:=by
 unfold XS at hh
 split at hh
 case h_1 x ho=>exact ⟨_,none,by rw [xev_den]; exact S_move ho,fv_ok hh⟩
 case h_2 x ho=>exact ⟨_,none,by rw [xev_den]; exact S_assign ho,fv_ok hh⟩
 case h_3 c x y ho=>
  obtain ⟨b,hb,hh⟩:=boolK_ok hh
  rw [xev_den] at hb
  cases b with
  | true=>
   have h2 : fv (xev n e x) fun v=>k v none:=hh
   exact ⟨xev n e x,none,S_pick ho hb (by simp [xev_den]),fv_ok h2⟩
  | false=>
   have h2 : fv (xev n e y) fun v=>k v none:=hh
   exact ⟨xev n e y,none,S_pick ho hb (by simp [xev_den]),fv_ok h2⟩
 case h_4 t x ho=>
  obtain ⟨vs,hv,hh⟩:=cellsK_ok hh
  rw [xev_den] at hv
  have hh:=lenK_ok hh
  have:=S_box (P:=P) (B:=B) (w0:=w0) (h:=h.map XLB.den) (s:=toL n e) ho hv
  simp only [List.length_map] at this
  exact ⟨.ptr h.length 0,some (.cells t vs),this,hh⟩
 case h_5 t ho=>
  obtain ⟨ti,z,ht,hz,hh⟩:=zK_ok O hh
  obtain ⟨vs,hv,hh⟩:=cellsK_ok hh
  have hh:=lenK_ok (k:=fun hl=>k (.ptr hl 0) (some (.cells t vs))) (forceV_ok (k:=fun cs=>lenK h fun hl=>k (.ptr hl 0) (some (.cells t cs))) hh)
  rw [xc_den] at hv
  have:=S_alloc (P:=P) (B:=B) (w0:=w0) (h:=h.map XLB.den) (s:=toL n e) ho hz hv
  simp only [List.length_map] at this
  exact ⟨.ptr h.length 0,some (.cells t vs),this,hh⟩
 case h_6 t x ho=>exact opLoad_ok O ho hh
 case h_7 t x f ho=>exact opFieldAddr_ok O ho hh
 case h_8 t x f ho=>exact opField_ok O ho hh
 case h_9 x i ho=>
  have hx:=xev_den n e x
  split at hh
  ·rename_i vs hv
   rw [hv] at hx
   split at hh
   ·rename_i v hv2
    rw [nthO_eq] at hv2
    exact ⟨v,none,S_extract ho hx.symm (by rw [denL_map,List.getElem?_map,hv2]; rfl),fv_ok hh⟩
   ·exact hh.elim
  ·rename_i ts hp hv
   rw [hv] at hx
   split at hh
   ·rename_i v hv2
    rw [nthO_eq] at hv2
    have h3 : ts[i]? = some v.den:=by rw [← unp_den ts hp.tup,denL_map,List.getElem?_map,hv2]; rfl
    exact ⟨v,none,S_extract ho hx.symm h3,fv_ok hh⟩
   ·exact hh.elim
  ·exact hh.elim
 case h_10 x ho=>
  have hx:=xev_den n e x
  split at hh
  ·rename_i i off hv
   rw [hv] at hx
   exact ⟨_,none,by have:=S_nilCheck (P:=P) (B:=B) (w0:=w0) (h:=h.map XLB.den) ho (.inl ⟨_,_,hx.symm⟩); rw [← hx] at this; exact this,hh⟩
  ·rename_i i kk sz j hv
   rw [hv] at hx
   exact ⟨_,none,by have:=S_nilCheck (P:=P) (B:=B) (w0:=w0) (h:=h.map XLB.den) ho (.inl ⟨_,_,hx.symm⟩); rw [← hx] at this; exact this,hh⟩
  ·rename_i ts hp hv
   rw [hv] at hx
   exact ⟨_,none,by have:=S_nilCheck (P:=P) (B:=B) (w0:=w0) (h:=h.map XLB.den) ho (.inr ⟨_,hx.symm⟩); rw [← hx] at this; exact this,hh⟩
  ·exact hh.elim
 case h_11 op t x ho=>
  split at hh
  ·obtain ⟨b,hb,hh⟩:=boolK_ok hh
   rw [xev_den] at hb
   exact ⟨_,none,S_not ho hb,hh⟩
  ·obtain ⟨kd,m,hm,hh⟩:=intK_ok hh
   rw [xev_den] at hm
   exact ⟨_,none,S_neg ho hm,hh⟩
  ·exact hh.elim
 case h_12 op t x y ty ho=>exact opBin_ok O ho hh
 case h_13 s d x ho=>
  obtain ⟨ts,hs,hh⟩:=tyK_ok O hh
  obtain ⟨td,hd,hh⟩:=tyK_ok O hh
  have hx:=xev_den n e x
  split at hh
  ·rename_i kd m hp hv
   rw [hv] at hx
   split at hh
   ·rename_i kd' hk
    exact ⟨_,none,S_conv_int ho hx.symm hs hd hk rfl,hh⟩
   ·obtain ⟨hk4,hh⟩:=isK_ok hh
    exact ⟨_,none,S_conv_rune ho hx.symm hs hd hk4,hh⟩
  ·rename_i u hp hv
   rw [hv] at hx
   split at hh
   ·rename_i hb
    exact ⟨_,none,S_conv_str ho hx.symm hs hd (Nat.eq_of_beq_eq_true hb),hh⟩
   ·obtain ⟨hk,hh⟩:=isK_ok hh
    obtain ⟨te,he,hh⟩:=tyK_ok O hh
    split at hh
    ·rename_i hek
     exact ⟨.p (.sl false ((numS u).map by1)) (nl_b1 _).sl,none,S_conv_str_by ho hx.symm hs hd hk he hek hh.1,hh.2⟩
    ·exact hh.elim
  ·rw [hx] at hh
   split at hh
   ·rename_i b els ha
    obtain ⟨hk4,hh⟩:=isK_ok hh
    obtain ⟨hk3,hh⟩:=isK_ok hh
    obtain ⟨te,he,hh⟩:=tyK_ok O hh
    split at hh
    ·rename_i hek
     obtain ⟨l,hl,hh2⟩:=hh
     subst hl
     exact ⟨.p (.v (.string (strOfNums l))) (nlv _),none,S_conv_bytes ho rfl ha hs hk3 he hek hd hk4,hh2⟩
    ·exact hh.elim
   ·exact hh.elim
 case h_14 t parts ho=>exact opBuild_ok O ho hh
 case h_15 t len parts ho=>exact opBuildSlice_ok O ho hh
 case h_16 t l c ho=>exact opMakeSlice_ok O ho hh
 case h_17 f fs cs ho=>
  split at hh
  ·rename_i hfs
   obtain rfl : fs = #[]:=by cases fs; simp at hfs; rw [hfs]
   exact ⟨_,none,by have:=S_makeFunc (P:=P) (B:=B) (w0:=w0) (h:=h.map XLB.den) (s:=toL n e) ho; rw [← evL_den] at this; exact this,evK_ok hh⟩
  ·exact hh.elim
 case h_18 t x y ho=>exact opIndexAddr_ok O ho hh
 case h_19 t x y ho=>exact opIndex_ok O ho hh
 case h_20 t x lo hi mx ho=>
  split at hh
  ·split at hh
   ·rename_i i p sz hv
    exact opSliceW_ok O ho hv hh
   ·exact opSlice_ok O ho hh
  ·exact hh.elim
 case h_21 cl ho=>exact opCall_ok O ho hh
 case h_22 t ho=>
  rcases hh with ⟨ht,hk⟩
  rename_i kt et
  have hk:=lenK_ok hk
  have:=S_makeMap (P:=P) (B:=B) (w0:=w0) (h:=h.map XLB.den) (s:=toL n e) (k:=kt) (e:=et) ho
  simp only [List.length_map] at this
  exact ⟨.row h.length,some (.ext _),this,hk⟩
 case h_23 t m x ho=>
  have hm:=xev_den n e m
  split at hh
  ·rename_i i hv
   rw [hv] at hm
   split at hh
   ·rename_i X hi
    have h1 : hf (h.map XLB.den) i = .ext X:=by rw [← hget_den,hi]; rfl
    obtain ⟨hX,hx,K,ht,hz,hzd,hkey,hu,hk⟩:=hh
    subst hX
    rw [xev_den] at hx
    exact ⟨_,none,S_lookup ho hm.symm h1 hx K ht hz hzd hkey hu,hk⟩
   ·exact hh.elim
  ·exact hh.elim
 case h_24=>exact hh.elim
end
end Go.Proofs.YtpgfhkbnngjegaaGreatDoor
