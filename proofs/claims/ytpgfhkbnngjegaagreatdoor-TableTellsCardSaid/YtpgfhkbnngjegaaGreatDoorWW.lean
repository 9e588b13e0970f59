/- The layer does something. No condition. -/
import Derived.Test.YtpgfhkbnngjegaaGreatDoorWB
import Derived.Test.YtpgfhkbnngjegaaGreatDoorU23
namespace Go.Proofs.YtpgfhkbnngjegaaGreatDoor
open Go.RowKit
set_option linter.unusedVariables false
set_option linter.unusedSimpArgs false
section
variable {P : Program} {B : Nat} {w0 : World} {h : List LB} {s : List TV} {o : Oper}
theorem S_buildSliceZ {t : TypeId} {len : Nat} {parts : Array (Nat × Operand)} {xs : List Operand} {els : List (List TV)} {z : Value} {ti te : TI} (ho : o.op = .buildSlice t len parts) (ht : tiOf P t = some ti) (hk : ti.k = 3) (he : tiOf P ti.el = some te) (hz : (P.info? ti.el).map (·.zero) = some (some z))
  (hp : parts.toList = idxs 0 xs) (hl : xs.length = len) (hc : cellsTs s xs = some els) (hs : els.all (fun c=>decide (c.length = te.n)) = true) (hb : len * te.n ≤ 16777216) (hn : len ≤ 9223372036854775807) : TStep P B w0 h s o (.sl true els) none:=.grow fun ρ h' w a H R hh=>by
 have hs' : ∀ c ∈ els,c.length = te.n:=fun c hc=>by simpa using List.all_eq_true.1 hs c hc
 have hels : els.length = len:=by
  rw [← hl]
  clear hp hl hs hs' ho hh
  induction xs generalizing els with
  | nil=>simp only [cellsTs,Option.some.injEq] at hc; subst hc; rfl
  | cons x xs ih=>
   simp only [cellsTs] at hc
   split at hc
   ·rename_i l ls h1 h2
    injection hc with hc
    subst hc
    simp [ih h2]
   ·cases hc
 have hopnd : ∀ x ∈ xs,x ∈ o.op.operands.toList:=by
  have key : ∀ (xs : List Operand) (k : Nat),(idxs k xs).map (·.2) = xs:=by
   intro xs
   induction xs with
   | nil=>intro k; rfl
   | cons x xs ih=>intro k; simp [idxs,ih]
  intro x hx
  simp only [ho,Op.operands,hp,key]
  exact hx
 obtain ⟨zs,hzs⟩ : ∃ zs : Array Value,(if len * te.n = 0 then (#[] : Array Value) else z.cells) = zs:=⟨_,rfl⟩
 obtain ⟨vs',css,h3,h4,h5,h6⟩:=fill_row (C:=cxOf B ρ h' w) (a:=a) (s:=s) (sz:=te.n) (fun x l h1 h2=>R.cellsT h2 h1) xs els 0 ((Array.range (len * te.n)).map (zs[· % zs.size]!)) hc (fun x hx=>hh x (hopnd x hx)) hs' (by simp [hl])
 have e1 : (parts.map fun (i,x)=>(i,a.eval x)).toList = (idxs 0 xs).map fun (i,x)=>(i,a.eval x):=by rw [← hp]; simp
 simp only [Nat.zero_mul,List.take_zero,List.nil_append] at h6
 have hvs : vs' = css.flatten.toArray:=by apply Array.ext'; simpa using h6
 have hb' : ¬ (len * te.n > 2 ^ 24):=by omega
 refine ⟨.slice (some ⟨w.heap.size,0,none⟩) len len,w.alloc (.cells vs' ti.el),?_,(Below.refl _ _).alloc (Nat.le_refl _) _,?_⟩
 ·by_cases h0 : len * te.n = 0
  ·rw [if_pos h0] at hzs
   subst hzs
   simp only [execOp,ho,Instr.buildSlice,Sem.run_bind,run_underlying (ti_slice ht hk),Result.andThen_ok,ti_size he,hb',if_false,Sem.run_ite,Sem.run_pure,e1,h0,if_true] at h3 ⊢
   simp only [h3,newRow,Sem.run_bind,Sem.run_pure,run_newObj_alloc,Result.andThen_ok]
   simp
  ·rw [if_neg h0] at hzs
   subst hzs
   simp only [execOp,ho,Instr.buildSlice,Sem.run_bind,run_underlying (ti_slice ht hk),Result.andThen_ok,ti_size he,hb',if_false,Sem.run_ite,Sem.run_pure,e1,h0,zero_run hz] at h3 ⊢
   simp only [h3,newRow,Sem.run_bind,Sem.run_pure,run_newObj_alloc,Result.andThen_ok]
 ·have hcl:=h4.len
  have hfl : css.flatten.length = els.length * te.n:=by
   rw [← hcl]
   clear h3 h4 h6 hcl hvs
   induction css with
   | nil=>simp
   | cons x css ih=>rw [List.flatten_cons,List.length_append,ih (fun y hy=>h5 y (by simp [hy])),h5 x (by simp),List.length_cons,Nat.add_mul]; omega
  have hbel : Below w.heap.size w (w.alloc (.cells vs' ti.el)):=(Below.refl _ _).alloc (Nat.le_refl _) _
  have hown : (w.alloc (.cells vs' ti.el)).ownsRow w.heap.size ti.el te.n (.slice (some ⟨w.heap.size,0,none⟩) els.length len) els.length css.flatten:=by
   refine ⟨hfl,.inr ⟨w.heap.size,len,vs',rfl,Nat.le_refl _,heap_alloc_new w _,by omega,by unfold maxLen; omega,by rw [hvs]; simpa [hels] using hfl,?_⟩⟩
   rw [hvs,List.take_of_length_le (by simp only []; rw [← hfl]; simp)]
  have:=row_sl (C:=cxOf B ρ h' (w.alloc (.cells vs' ti.el))) (b:=true) hown h5 (DnLL.keep (.grow hbel) _ _ h4) (fun ad ha=>?_) (fun _=>R.size)
  ·rw [hels] at this; exact this
  ·injection ha with ha
   subst ha
   refine ⟨fun i hi e=>?_,fun i hp=>Nat.lt_irrefl _ (R.ps_lt hp).2.1⟩
   have:=R.inj i _ hi e
   exact Nat.lt_irrefl _ this
end
section
variable {P : Program} {B : Nat} {w0 : World} {T : Tab} {n : Nat} {e : Env} {h : List XLB} {gs : Frames} {K : KK}
def XSz (P : Program) (T : Tab) (n : Nat) (h : List XLB) (e : Env) (op : Op) (k : XV→Option XLB→Prop) : Prop:=match op with
 | .buildSlice t len parts=>tyK T t fun ti=>isK ti.k 3 (zK T ti.el fun te z=>isK parts.toList.length len (match Nat.ble (len * te.n) 16777216 with
  | true=>match Nat.ble len 9223372036854775807 with
   | true=>rowsK n e te.n 0 parts.toList fun els hp=>k (.p (.sl true els) hp.sl) none
   | false=>False
  | false=>False))
 | op=>XS P T n h e op k
theorem XSz_ok (O : TabOk P T) {o : Oper} {k : XV→Option XLB→Prop} (hh : XSz P T n h e o.op k) : ∃ v new,TStep P B w0 (h.map XLB.den) (toL n e) o v.den (Option.map XLB.den new)∧k v new:=by
 unfold XSz at hh
 split at hh
 ·rename_i t len parts ho
  obtain ⟨ti,ht,hh⟩:=tyK_ok O hh
  obtain ⟨hk3,hh⟩:=isK_ok hh
  obtain ⟨te,z,he,hz,hh⟩:=zK_ok O hh
  obtain ⟨hl,hh⟩:=isK_ok hh
  split at hh
  ·rename_i h1
   split at hh
   ·rename_i h2
    obtain ⟨xs,els,hp,h3,h4,h5,h6,hh⟩:=rowsK_ok hh
    have:=S_buildSliceZ (P:=P) (B:=B) (w0:=w0) (h:=h.map XLB.den) (s:=toL n e) ho ht hk3 he hz h3 (h4.trans hl) h5 h6 (Nat.le_of_ble_eq_true h1) (Nat.le_of_ble_eq_true h2)
    exact ⟨.p (.sl true els) hp.sl,none,this,hh⟩
   ·exact hh.elim
  ·exact hh.elim
 ·exact XS_ok O hh
def XPz (P : Program) (T : Tab) (n : Nat) (L : List Oper) : List Oper→Env→List XLB→(Env→List XLB→Prop)→Prop
 | [],e,h,k=>k e h
 | o :: r,e,h,k=>guardK n L e o.guard (XSz P T n h e o.op fun v new=>putK n e o.dst v fun e'=>addK h new fun h'=>XPz P T n L r e' h' k) (putK n e o.dst (.p (.v undef) (nlv _)) fun e'=>XPz P T n L r e' h k)
theorem XPz_ok (O : TabOk P T) {L : List Oper} {K : List TV→List LB→Prop} : ∀ {l : List Oper} {e : Env} {h : List XLB} {k : Env→List XLB→Prop},XPz P T n L l e h k→(∀ e h,k e h→K (toL n e) (h.map XLB.den))→TPar P B w0 L l (toL n e) (h.map XLB.den) K
 | [],e,h,k,hh,hk=>hk _ _ hh
 | o :: r,e,h,k,hh,hk=>by
  have key : ∀ {e : Env} {h : List XLB} {v : XV} {new : Option XLB},(putK n e o.dst v fun e'=>addK h new fun h'=>XPz P T n L r e' h' k)→TPar P B w0 L r (putO (toL n e) o.dst v.den) (addO (h.map XLB.den) (new.map XLB.den)) K:=fun hh=>by
   obtain ⟨e',he,hh⟩:=putK_ok hh
   obtain ⟨h',hh',hh⟩:=addK_ok hh
   have:=XPz_ok O hh hk
   rw [he,hh'] at this
   exact this
  rcases guardK_ok hh with ⟨hg,hh⟩ | ⟨j,b,og,d,hg,hog,hd,hlt,hh⟩
  ·obtain ⟨v,new,hs,hh⟩:=XSz_ok (B:=B) (w0:=w0) O hh
   exact .run hg hs (key hh)
  ·have hlt' : d < (toL n e).length:=by rw [toL_len]; exact hlt
   rcases hh with ⟨hb,hh⟩ | ⟨x,hx,hn,hh⟩
   ·obtain ⟨v,new,hs,hh⟩:=XSz_ok (B:=B) (w0:=w0) O hh
    exact .run_g hg hog hd hlt' hb hs (key hh)
   ·obtain ⟨e',he,hh⟩:=putK_ok hh
    have:=XPz_ok O hh hk
    rw [he] at this
    exact .skip_g hg hog hd hlt' hx hn this
theorem RegG.parz {l : List Oper} (m : Nat) (hB : regB l m = true) (hx : XPz P T n l (l.take m) e h fun e h=>XL P B w0 T n l (l.drop m) e h gs K) : RegG P B w0 T n l e h gs K:=.ta fun O gh Q hq=>by
 refine TA.par (σ:=xst n e h gs) m O.mo hB ?_
 exact XPz_ok O hx fun e h h1=>XL_ok O l.toArray gh Q (by simpa using h1) hq
end
end Go.Proofs.YtpgfhkbnngjegaaGreatDoor

namespace Go.Proofs.YtpgfhkbnngjegaaGreatDoor
open Go.RowKit
set_option linter.unusedVariables false
set_option linter.unusedSimpArgs false
section
variable {P : Program} {B : Nat} {w0 : World} {T : Tab} {n : Nat} {gh : List Value} {Q : Exit→St→Prop}
def XPkz (P : Program) (T : Tab) (n : Nat) (L : List Oper) (fs : List FX) : Nat→List Oper→Env→List XLB→List FX→(Env→List XLB→List FX→Prop)→Prop
 | _,[],e,h,pd,k=>k e h pd
 | p,o :: r,e,h,pd,k=>match o.op with
  | .store t x y=>match o.guard with
   | none=>match o.dst with
    | none=>stoK T n fs p e h t x y pd fun pd=>XPkz P T n L fs (p + 1) r e h pd k
    | some _=>False
   | some _=>False
  | _=>match isLoad o.op with
   | true=>guardK n L e o.guard (knK L p fs fun kn=>setFK kn h fun h1=>XSz P T n h1 e o.op fun v new=>match new with
     | none=>putK n e o.dst v fun e'=>XPkz P T n L fs (p + 1) r e' h pd k
     | some _=>False) (putK n e o.dst (.p (.v undef) (nlv _)) fun e'=>XPkz P T n L fs (p + 1) r e' h pd k)
   | false=>guardK n L e o.guard (XSz P T n h e o.op fun v new=>putK n e o.dst v fun e'=>addK h new fun h'=>XPkz P T n L fs (p + 1) r e' h' pd k) (putK n e o.dst (.p (.v undef) (nlv _)) fun e'=>XPkz P T n L fs (p + 1) r e' h pd k)
theorem XPkz_ok (O : TabOk P T) {L : List Oper} {fs : List FX} {K : List TV→List LB→List StD→Prop} : ∀ {l : List Oper} {p : Nat} {e : Env} {h : List XLB} {pd : List FX} {ds : List StD} {k : Env→List XLB→List FX→Prop},pdk ds pd→XPkz P T n L fs p l e h pd k→(∀ e h pd ds,pdk ds pd→k e h pd→K (toL n e) (h.map XLB.den) ds)→TPk P B w0 L (fs.map FX.den) p l (toL n e) (h.map XLB.den) ds K
 | [],p,e,h,pd,ds,k,hr,hh,hk=>hk _ _ _ _ hr hh
 | o :: r,p,e,h,pd,ds,k,hr,hh,hk=>by
  have gen : (guardK n L e o.guard (XSz P T n h e o.op fun v new=>putK n e o.dst v fun e'=>addK h new fun h'=>XPkz P T n L fs (p + 1) r e' h' pd k) (putK n e o.dst (.p (.v undef) (nlv _)) fun e'=>XPkz P T n L fs (p + 1) r e' h pd k))→TPk P B w0 L (fs.map FX.den) p (o :: r) (toL n e) (h.map XLB.den) ds K:=fun hh=>by
   have key : ∀ {e : Env} {h : List XLB} {v : XV} {new : Option XLB},(putK n e o.dst v fun e'=>addK h new fun h'=>XPkz P T n L fs (p + 1) r e' h' pd k)→TPk P B w0 L (fs.map FX.den) (p + 1) r (putO (toL n e) o.dst v.den) (addO (h.map XLB.den) (new.map XLB.den)) ds K:=fun hh=>by
    obtain ⟨e',he,hh⟩:=putK_ok hh
    obtain ⟨h',hh',hh⟩:=addK_ok hh
    have:=XPkz_ok O hr hh hk
    rw [he,hh'] at this
    exact this
   rcases guardK_ok hh with ⟨hg,hh⟩ | ⟨j,b,og,d,hg,hog,hd,hlt,hh⟩
   ·obtain ⟨v,new,hs,hh⟩:=XSz_ok (B:=B) (w0:=w0) O hh
    exact .st hg hs (key hh)
   ·have hlt' : d < (toL n e).length:=by rw [toL_len]; exact hlt
    rcases hh with ⟨hb,hh⟩ | ⟨x,hx,hn,hh⟩
    ·obtain ⟨v,new,hs,hh⟩:=XSz_ok (B:=B) (w0:=w0) O hh
     exact .st_g hg hog hd hlt' hb hs (key hh)
    ·obtain ⟨e',he,hh⟩:=putK_ok hh
     have:=XPkz_ok O hr hh hk
     rw [he] at this
     exact .sk_g hg hog hd hlt' hx hn this
  unfold XPkz at hh
  split at hh
  ·rename_i t x y hop
   split at hh
   ·rename_i hg
    split at hh
    ·rename_i hdst
     unfold stoK at hh
     obtain ⟨ti,ht,hh⟩:=tyK_ok O hh
     obtain ⟨l,hl,hh⟩:=cellsK_ok hh
     obtain ⟨hn,hh⟩:=isK_ok hh
     rw [xev_den] at hl
     have hlen : (XV.denL l).length = l.length:=by rw [denL_map]; simp
     split at hh
     ·exact hh.elim
     ·rename_i h1
      have h1:=allOne_ok h1
      have hx:=xev_den n e x
      split at hh
      ·rename_i i off hv
       rw [hv] at hx
       obtain ⟨t0,cs,h2,_,hh⟩:=cellsAtK_ok hh
       split at hh
       ·rename_i h3
        have h3:=Nat.le_of_ble_eq_true h3
        split at hh
        ·rename_i h4
         obtain ⟨h5,hh⟩:=hh
         have hlc : (XV.denL cs).length = cs.length:=by rw [denL_map]; simp
         obtain ⟨f,hf,hhit⟩:=List.any_eq_true.1 h4
         simp only [FX.hit,Bool.and_eq_true] at hhit
         obtain ⟨z1,z2,z3,z4⟩:=hhit
         refine .inr (.inr ⟨⟨t,x,y,i,off,t0,XV.denL cs,XV.denL l,ti⟩,⟨hg,hop,hdst,hx.symm,h2,ht,hl,by show (XV.denL l).length = ti.n; omega,h1,by show off + (XV.denL l).length ≤ (XV.denL cs).length; omega,by rw [hlen]; exact h5⟩,⟨f.den,List.mem_map_of_mem hf,Nat.eq_of_beq_eq_true z1,Nat.eq_of_beq_eq_true z2,Nat.eq_of_beq_eq_true z3,?_⟩,?_⟩)
         ·show (XV.denL f.ol).length = (XV.denL l).length
          rw [hlen,denL_map,List.length_map]; exact Nat.eq_of_beq_eq_true z4
         ·refine XPkz_ok O ?_ hh hk
          unfold pdk at hr ⊢
          rw [List.map_append,List.map_append,hr]
          rfl
        ·exact hh.elim
       ·exact hh.elim
      ·exact hh.elim
    ·exact hh.elim
   ·exact hh.elim
  ·split at hh
   ·have kno : ∀ {hh0 : knK L p fs fun kn=>setFK kn h fun h1=>XSz P T n h1 e o.op fun v new=>match new with
     | none=>putK n e o.dst v fun e'=>XPkz P T n L fs (p + 1) r e' h pd k
     | some _=>False},Wants L (toL n e) o true→TPk P B w0 L (fs.map FX.den) p (o :: r) (toL n e) (h.map XLB.den) ds K:=fun {hh} hw=>by
     obtain ⟨kn,h1,hh⟩:=knK_ok hh
     obtain ⟨h',e1,hh⟩:=setFK_ok hh
     obtain ⟨v,new,hs,hh⟩:=XSz_ok (B:=B) (w0:=w0) O hh
     rw [e1] at hs
     cases new with
     | none=>
      obtain ⟨e',he,hh⟩:=putK_ok hh
      have:=XPkz_ok O hr hh hk
      rw [he] at this
      refine .inr (.inl ⟨v.den,kn.map FX.den,hw,fun f hf=>?_,hs,this⟩)
      obtain ⟨f,hf1,rfl⟩:=List.mem_map.1 hf
      obtain ⟨k1,k2,k3⟩:=h1 f hf1
      exact ⟨List.mem_map_of_mem k1,k2,8,k3⟩
     | some x=>exact hh.elim
    rcases guardK_ok hh with ⟨hg,hh⟩ | ⟨j,b,og,d,hg,hog,hd,hlt,hh⟩
    ·exact kno (hh0:=hh) (by simp [Wants,hg])
    ·have hlt' : d < (toL n e).length:=by rw [toL_len]; exact hlt
     rcases hh with ⟨hb,hh⟩ | ⟨x,hx,hn,hh⟩
     ·exact kno (hh0:=hh) (by simp only [Wants,hg]; exact ⟨og,d,_,hog,hd,hlt',hb,by simp [isB]⟩)
     ·obtain ⟨e',he,hh⟩:=putK_ok hh
      have:=XPkz_ok O hr hh hk
      rw [he] at this
      exact .sk_g hg hog hd hlt' hx hn this
   ·exact gen hh
theorem RegG.knowz {l : List Oper} {e : Env} {h : List XLB} {gs : Frames} {k : KK} (m : Nat) (ts : List FT) (hB : regB l m = true) (hD : disAll (ts.map FT.den) = true)
  (hx : knowAll ts h h fun fs h=>takeK m l fun l1=>dropK m l fun l2=>XPkz P T n l fs 0 l1 e h [] fun e h pd=>setFK pd h fun h=>XL P B w0 T n l l2 e h gs k) : RegG P B w0 T n l e h gs k:=.ta fun O gh Q hk=>by
 obtain ⟨fs,h',hx,e2,e3,e4⟩:=knowAll_ok hx
 have hx:=dropK_ok (k:=fun l2=>XPkz P T n l fs 0 (l.take m) e h' [] fun e h pd=>setFK pd h fun h=>XL P B w0 T n l l2 e h gs k) (takeK_ok (k:=fun l1=>dropK m l fun l2=>XPkz P T n l fs 0 l1 e h' [] fun e h pd=>setFK pd h fun h=>XL P B w0 T n l l2 e h gs k) hx)
 refine TA.know (σ:=xst n e h gs) m O.mo hB (fs.map FX.den) (by rw [← disAll_no,e3]; exact hD) e4 ?_
 show TPk P B w0 l (fs.map FX.den) 0 (l.take m) (toL n e) (setF (h.map XLB.den) ((fs.map FX.den).map FsE.no)) [] _
 rw [← e2]
 refine XPkz_ok O (by rfl) hx fun e h pd ds hr h1=>?_
 obtain ⟨h2,e5,h1⟩:=setFK_ok h1
 have:=XL_ok O l.toArray gh Q (by simpa using h1) hk
 unfold pdk at hr
 rw [hr,← e5]
 exact this
end
section
variable {P : Program} {B : Nat} {w0 : World} {T : Tab} {n : Nat} {e : Env} {h : List XLB} {gs : Frames} {K : KK} {o : Oper}
def XSaz (an : Bool) (P : Program) (T : Tab) (n : Nat) (h : List XLB) (e : Env) (o : Op) (k : XV→Option XLB→Prop) : Prop:=match an with
 | false=>XSz P T n h e o k
 | true=>match o with
  | .alloc t=>zK T t fun _ z=>cellsK (xc z) fun cs=>lenK h fun hl=>k (.ptr hl 0) (some (.cells t (List.replicate cs.length .any)))
  | o=>XSz P T n h e o k
theorem XSaz_ok {an : Bool} (O : TabOk P T) {k : XV→Option XLB→Prop} (hh : XSaz an P T n h e o.op k) : ∃ v new,TStep P B w0 (h.map XLB.den) (toL n e) o v.den (Option.map XLB.den new)∧k v new:=by
 unfold XSaz at hh
 split at hh
 ·exact XSz_ok O hh
 ·split at hh
  ·rename_i t ho
   obtain ⟨ti,z,ht,hz,hh⟩:=zK_ok O hh
   obtain ⟨vs,hv,hh⟩:=cellsK_ok hh
   have hh:=lenK_ok hh
   rw [xc_den] at hv
   have:=(S_alloc (P:=P) (B:=B) (w0:=w0) (h:=h.map XLB.den) (s:=toL n e) ho hz hv).anyd
   simp only [List.length_map] at this
   refine ⟨.ptr h.length 0,some (.cells t (List.replicate vs.length .any)),?_,hh⟩
   have e1 : (XV.denL vs).length = vs.length:=by rw [denL_map]; simp
   have e2 : XV.denL (List.replicate vs.length XV.any) = List.replicate vs.length TV.any:=by rw [denL_map,List.map_replicate]; rfl
   simp only [Option.map_some,XLB.den,e2]
   rw [e1] at this
   exact this
  ·exact XSz_ok O hh
def XPsz (an : Bool) (P : Program) (T : Tab) (n : Nat) (L : List Oper) : List Oper→Env→List XLB→PdX→(Env→List XLB→PdX→Prop)→Prop
 | [],e,h,pd,k=>k e h pd
 | o :: r,e,h,pd,k=>match o.op with
  | .store t x y=>match o.guard with
   | none=>match o.dst with
    | none=>stoP T n e h t x y pd fun pd=>XPsz an P T n L r e h pd k
    | some _=>False
   | some _=>False
  | _=>guardK n L e o.guard (XSaz an P T n h e o.op fun v new=>putK n e o.dst v fun e'=>addK h new fun h'=>XPsz an P T n L r e' h' pd k) (putK n e o.dst (.p (.v undef) (nlv _)) fun e'=>XPsz an P T n L r e' h pd k)
theorem XPsz_ok {an : Bool} (O : TabOk P T) {L : List Oper} {K : List TV→List LB→List StD→Prop} : ∀ {l : List Oper} {e : Env} {h : List XLB} {pd : PdX} {ds : List StD} {k : Env→List XLB→PdX→Prop},pdR ds pd→XPsz an P T n L l e h pd k→(∀ e h pd ds,pdR ds pd→k e h pd→K (toL n e) (h.map XLB.den) ds)→TPs P B w0 L l (toL n e) (h.map XLB.den) ds K
 | [],e,h,pd,ds,k,hr,hh,hk=>hk _ _ _ _ hr hh
 | o :: r,e,h,pd,ds,k,hr,hh,hk=>by
  have gen : (guardK n L e o.guard (XSaz an P T n h e o.op fun v new=>putK n e o.dst v fun e'=>addK h new fun h'=>XPsz an P T n L r e' h' pd k) (putK n e o.dst (.p (.v undef) (nlv _)) fun e'=>XPsz an P T n L r e' h pd k))→TPs P B w0 L (o :: r) (toL n e) (h.map XLB.den) ds K:=fun hh=>by
   have key : ∀ {e : Env} {h : List XLB} {v : XV} {new : Option XLB},(putK n e o.dst v fun e'=>addK h new fun h'=>XPsz an P T n L r e' h' pd k)→TPs P B w0 L r (putO (toL n e) o.dst v.den) (addO (h.map XLB.den) (new.map XLB.den)) ds K:=fun hh=>by
    obtain ⟨e',he,hh⟩:=putK_ok hh
    obtain ⟨h',hh',hh⟩:=addK_ok hh
    have:=XPsz_ok O hr hh hk
    rw [he,hh'] at this
    exact this
   rcases guardK_ok hh with ⟨hg,hh⟩ | ⟨j,b,og,d,hg,hog,hd,hlt,hh⟩
   ·obtain ⟨v,new,hs,hh⟩:=XSaz_ok (B:=B) (w0:=w0) O hh
    exact .st hg hs fun s' h' e1 e2=>by rw [e1,e2]; exact key hh
   ·have hlt' : d < (toL n e).length:=by rw [toL_len]; exact hlt
    rcases hh with ⟨hb,hh⟩ | ⟨x,hx,hn,hh⟩
    ·obtain ⟨v,new,hs,hh⟩:=XSaz_ok (B:=B) (w0:=w0) O hh
     exact .st_g hg hog hd hlt' hb hs fun s' h' e1 e2=>by rw [e1,e2]; exact key hh
    ·obtain ⟨e',he,hh⟩:=putK_ok hh
     have:=XPsz_ok O hr hh hk
     rw [he] at this
     exact .sk_g hg hog hd hlt' hx hn fun s' h' e1 e2=>by rw [e1,e2]; exact this
  unfold XPsz at hh
  split at hh
  ·rename_i t x y hop
   split at hh
   ·rename_i hg
    split at hh
    ·rename_i hdst
     unfold stoP at hh
     obtain ⟨ti,ht,hh⟩:=tyK_ok O hh
     obtain ⟨l,hl,hh⟩:=cellsK_ok hh
     obtain ⟨hn,hh⟩:=isK_ok hh
     rw [xev_den] at hl
     have hlen : (XV.denL l).length = l.length:=by rw [denL_map]; simp
     split at hh
     ·exact hh.elim
     ·rename_i h1
      have h1:=allOne_ok h1
      have hx:=xev_den n e x
      split at hh
      ·rename_i i off hv
       rw [hv] at hx
       obtain ⟨t0,cs,h2,_,hh⟩:=cellsAtK_ok hh
       split at hh
       ·rename_i h3
        have h3:=Nat.le_of_ble_eq_true h3
        split at hh
        ·rename_i h4
         obtain ⟨h5,hh⟩:=hh
         have hh:=putsK_ok (k:=fun cs'=>XPsz an P T n L r e h (pd ++ [(i,t0,cs')]) k) hh
         have hlc : (XV.denL cs).length = cs.length:=by rw [denL_map]; simp
         refine TPs.sto hg hop hdst hx.symm h2 ht hl (by omega) h1 (by omega) (by rw [hlen]; exact h5) (pdR_all hr h4) ?_
         refine XPsz_ok O ?_ hh hk
         unfold pdR at hr ⊢
         rw [List.map_append,List.map_append,hr]
         simp only [List.map_cons,List.map_nil,StD.lb,denL_setsV]
        ·exact hh.elim
       ·exact hh.elim
      ·exact hh.elim
    ·exact hh.elim
   ·exact hh.elim
  ·exact gen hh
theorem RegG.lateaz {l : List Oper} {e : Env} {h : List XLB} {gs : Frames} {k : KK} (m : Nat) (fs : List (Nat × Nat × Nat)) (hB : regB l m = true) (hx : anyAll fs h fun h=>takeK m l fun l1=>dropK m l fun l2=>XPsz true P T n l l1 e h [] fun e h pd=>XL P B w0 T n l l2 e (setX h pd) gs k) : RegG P B w0 T n l e h gs k:=.ta fun O gh Q hk=>by
 obtain ⟨h,hx,hle⟩:=anyAll_ok (B:=B) (w0:=w0) (gh:=gh) (gs:=gs) (e:=e) (n:=n) hx
 refine TA.le ?_ hle
 have hx:=dropK_ok (k:=fun l2=>XPsz true P T n l (l.take m) e h [] fun e h pd=>XL P B w0 T n l l2 e (setX h pd) gs k) (takeK_ok (k:=fun l1=>dropK m l fun l2=>XPsz true P T n l l1 e h [] fun e h pd=>XL P B w0 T n l l2 e (setX h pd) gs k) hx)
 refine TA.late (σ:=xst n e h gs) m O.mo hB ?_
 refine XPsz_ok O (by rfl) hx fun e h pd ds hr h1=>?_
 have:=XL_ok O l.toArray gh Q (by simpa using h1) hk
 rw [setX_ok hr]
 exact this
end
end Go.Proofs.YtpgfhkbnngjegaaGreatDoor

namespace Go.Proofs.YtpgfhkbnngjegaaGreatDoor
open Go.RowKit
set_option linter.unusedVariables false
set_option linter.unusedSimpArgs false
theorem qww0 {p : Prop} (h : p:=by
 simp only [outs,zqL,fr_by1,fr_rw,fr_tb,fr_dc,fr_vl,fr_cl,tblZ,List.map_nil]) : p:=h
set_option maxRecDepth 20000
set_option maxRecDepth 20000 in
theorem insert_T (b b1 b2 b3 d d2 : Bool) (s : List Tbl) (x : ByteArray) (l : List (List Val)) (hs : ∀ t ∈ s,t.In) (hn : s.length ≤ 100000) (hl : l.length ≤ 100000) (hlr : ∀ r ∈ l,r.length ≤ 100000) (R : List Tbl × Int) (hR : R = filR s x l true) : XMeets Tryz.prog 45 [stT b b1 b2 b3 s,.v (.string x),.sl d (l.map (rwC d2))] (.tu [.ag [.ow 25 3 ((R.1).map (tbC true true true)) (nl_tb _ _ _ _)],.p (.v (.int .i64 (R.2))) (nlv _)]):=by
 refine XMeets.of_X tabX_ok (avs:=[.ag [.p (.sl false (s.map (tbC false false false))) (nl_tb _ _ _ _).sl],.p (.v (.string x)) (nlv _),.p (.sl false (l.map (rwC false))) (nl_rw _ _).sl]) [(0,.ag [.p (.sl false (s.map (tbC false false false))) (nl_tb _ _ _ _).sl]),(1,.p (.v (.string x)) (nlv _)),(2,.p (.sl false (l.map (rwC false))) (nl_rw _ _).sl)] (by kernel_rfl) Tryz.func45 rfl (by simp [PuL,Pu,tbT,stT,tbC,rwC,vlC,dfC,pu_vl,pu_dc,pu_rw,pu_tb]) (by simp only [untagL,untag,tbT,stT,tbC,rwC,vlC,dfC,untag_vl,untag_dc,untag_rw,untag_tb]; rfl) rfl rfl ?_
 intro B w0
 conv=>whnf
 refine .ct ?_
 conv=>whnf
 refine CallG.mk (fillS_T _ _ _ _ _ _ _ _ _ hs hn hl hlr R hR) rfl ?_
 conv=>whnf
 refine FinG.mk (some 2) ?_ (by rintro _ ⟨⟩; trivial)
 exact qww0
set_option maxRecDepth 20000 in
theorem num_T (x : Int) : XMeets Tryz.prog 54 [.v (.int .i64 x)] (.ag [.p (.v (.int .i64 3)) (nlv _),.p (.v (.int .i64 x)) (nlv _),.p (.v (.string ⟨#[]⟩)) (nlv _)]):=by
 refine XMeets.of_X tabX_ok (avs:=[.p (.v (.int .i64 x)) (nlv _)]) [(0,.p (.v (.int .i64 x)) (nlv _))] (by kernel_rfl) Tryz.func54 rfl (by simp [PuL,Pu]) (rfl) rfl rfl ?_
 intro B w0
 conv=>whnf
 refine FinG.mk none ?_ zqR
 exact qww0
def nvV (n : Int) : Val:=⟨3,n,⟨#[]⟩⟩
def xV : Val:=⟨4,0,⟨#[120]⟩⟩
def nulV : Val:=⟨1,0,⟨#[]⟩⟩
def tkA : Tbl:=⟨⟨#[116]⟩,[⟨⟨#[97]⟩,3,true,false⟩,⟨⟨#[98]⟩,4,false,false⟩],[]⟩
def rkA : List (List Val):=[[nvV 2,xV],[nvV 1,nulV]]
def rkB : List (List Val):=[[nvV 2,xV]]
def tkB : Tbl:=tbR tkA [[nvV 1,nulV],[nvV 2,xV]]
theorem wk_cre : (([tkA],0) : List Tbl × Int) = creR [] tkA:=by kernel_rfl
theorem wk_ins : (([tkB],0) : List Tbl × Int) = filR [tkA] ⟨#[116]⟩ rkA true:=by kernel_rfl
theorem wk_ins2 : (([],5) : List Tbl × Int) = filR [tkB] ⟨#[116]⟩ rkB true:=by kernel_rfl
theorem wk_get : [nvV 2,xV] = (getO [tkB] ⟨#[116]⟩ (nvV 2)).getD []∧true = (getO [tkB] ⟨#[116]⟩ (nvV 2)).isSome:=⟨by kernel_rfl,by kernel_rfl⟩
theorem wk_sto : stoB [tkB] = true:=by kernel_rfl
theorem wk_len : (prL [tkB]).length = 3:=by kernel_rfl
theorem val_ok {v : Val} (h : v = nvV 2∨v = nvV 1∨v = xV∨v = nulV) : v.Ok:=by
  rcases h with rfl | rfl | rfl | rfl <;> exact ⟨by decide,by decide,by decide,by decide,by decide⟩
theorem tkA_in : tkA.In:=by
  refine ⟨by decide,fun d hd=>?_,by decide,fun r hr=>by simp [tkA] at hr,by decide⟩
  simp only [tkA,List.mem_cons,List.not_mem_nil,or_false] at hd
  rcases hd with rfl | rfl <;> exact ⟨by decide,by unfold I64; exact ⟨by decide,by decide⟩⟩
theorem tkB_in : tkB.In:=by
  refine ⟨by decide,fun d hd=>?_,by decide,fun r hr=>?_,by decide⟩
  · exact tkA_in.c d hd
  · simp only [tkB,tbR,List.mem_cons,List.not_mem_nil,or_false] at hr
    rcases hr with rfl | rfl <;> refine ⟨by decide,fun v hv=>val_ok ?_⟩ <;> simp only [List.mem_cons,List.not_mem_nil,or_false] at hv <;> rcases hv with rfl | rfl <;> simp
theorem one_in {t : Tbl} (h : t.In) : ∀ x ∈ [t],x.In:=fun x hx=>by rw [List.mem_singleton.1 hx]; exact h
set_option maxRecDepth 20000 in
theorem wakes_T  : XMeets Tryz.prog 10 [] (.p (.v (.bool (true))) (nlv _)):=by
 refine XMeets.of_X tabX_ok (avs:=[]) [] (by kernel_rfl) Tryz.func10 rfl (by simp [PuL,Pu]) (rfl) rfl rfl ?_
 intro B w0
 conv=>whnf
 refine .ct ?_
 conv=>whnf
 refine CallG.mk (create_T true true true true true true true [] tkA (fun t ht=>by simp at ht) (by simp) tkA_in _ wk_cre) rfl ?_
 conv=>whnf
 refine RegG.knowz 14 [⟨12,4,0,1,true⟩] (by kernel_rfl) (by kernel_rfl) ?_
 conv=>whnf
 refine CallG.mk (num_T _) rfl ?_
 conv=>whnf
 refine CallG.mk (num_T _) rfl ?_
 conv=>whnf
 refine CallG.mk (insert_T _ _ _ _ _ _ [tkA] _ rkA (one_in tkA_in) (by simp) (by decide) (fun r hr=>by simp only [rkA,List.mem_cons,List.not_mem_nil,or_false] at hr; rcases hr with rfl | rfl <;> decide) _ wk_ins) rfl ?_
 conv=>whnf
 refine ⟨rfl,?_⟩
 conv=>whnf
 refine RegG.parz 8 (by kernel_rfl) ?_
 conv=>whnf
 refine CallG.mk (num_T _) rfl ?_
 conv=>whnf
 refine CallG.mk (get_T _ _ _ _ [tkB] _ (nvV 2) (one_in tkB_in) (by simp) _ _ wk_get.2 wk_get.1) rfl ?_
 conv=>whnf
 refine RegG.lateaz 12 [] (by kernel_rfl) ?_
 conv=>whnf
 refine CallG.mk (num_T _) rfl ?_
 conv=>whnf
 refine CallG.mk (insert_T _ _ _ _ _ _ [tkB] _ rkB (one_in tkB_in) (by simp) (by decide) (fun r hr=>by simp only [rkB,List.mem_cons,List.not_mem_nil,or_false] at hr; subst hr; decide) _ wk_ins2) rfl ?_
 conv=>whnf
 refine ⟨rfl,?_⟩
 conv=>whnf
 refine RegG.par 32 (by kernel_rfl) ?_
 conv=>whnf
 refine IdxG.mk rfl rfl ?_
 conv=>whnf
 refine ⟨rfl,?_⟩
 conv=>whnf
 refine BinG.mk rfl rfl (eqVal_run _ _ _ _ _ _ _ _) ?_
 conv=>whnf
 refine CallG.mk (pairs_T _ _ _ _ [tkB] (one_in tkB_in) (by simp) wk_sto (PRH.of wk_sto)) rfl ?_
 conv=>whnf
 refine FinG.mk none ?_ zqR
 simp only [outs,zqL,fr_by1,fr_rw,fr_tb,fr_dc,fr_vl,fr_cl,tblZ,List.map_nil,wk_len]
 simp; done
end Go.Proofs.YtpgfhkbnngjegaaGreatDoor
