/- A map that the call has made is gone through: its entries, and an iterator over it. No condition. -/
import Derived.Test.YtpgfhkbnngjegaaGreatDoorT17
import Derived.Test.YtpgfhkbnngjegaaGreatDoorT26
import Derived.Maps.Own
import Derived.Maps.Range
namespace Go.Proofs.YtpgfhkbnngjegaaGreatDoor
open Go.RowKit
set_option linter.unusedVariables false
set_option linter.unusedSimpArgs false
section
variable {B : Nat} {w0 w w' : World} {ρ : Nat→Value} {h : Nat→LB}
theorem Keeps.putX {n g : Nat} {x x' : Ext} (hn : h n = .ext x) (hg : x.p (ρ n) g) (hw : w.grownBy w' (some g)) (hp : ∀ k,x'.p (ρ n) k→x.p (ρ n) k) (hz : x.z = false) : Keeps (cxOf B ρ h w) (cxOf B ρ (updf h n (.ext x')) w') where
 blk k hS hk:=⟨hw.block k hk (fun e=>by injection e with e; subst e; exact hS.2 n (by rw [hn]; exact hg)),⟨fun i hi=>by
  by_cases hin : i = n
  ·subst hin; exact hS.1 i (by rw [hn]; trivial)
  ·rw [updf_ne _ _ hin] at hi; exact hS.1 i hi,fun i hi=>by
  by_cases hin : i = n
  ·subst hin; rw [updf_same] at hi; exact hS.2 i (by rw [hn]; exact hp k hi)
  ·rw [updf_ne _ _ hin] at hi; exact hS.2 i hi⟩,Nat.lt_of_lt_of_le hk hw.size⟩
 base:=Nat.le_refl _
 loc i hi:=by
  refine ⟨?_,rfl⟩
  show (updf h n (.ext x') i).here
  by_cases hin : i = n
  ·subst hin; rw [updf_same]; trivial
  ·rw [updf_ne _ _ hin]; exact hi
 own _ _ _ _ _ ho:=ho
 zn i k hi hzz hk:=by
  have hin : i ≠ n:=by
   rintro rfl
   obtain ⟨y,e,_,h2⟩:=LB.zs_of hzz.2.1
   rw [hn] at e
   injection e with e
   subst e
   rw [hz] at h2
   cases h2
  have hps : ∀ j,(updf h n (.ext x') j).ps (ρ j) k→(h j).ps (ρ j) k:=fun j hj=>by
   by_cases hjn : j = n
   ·subst hjn; rw [updf_same] at hj; rw [hn]; exact hp k hj
   ·rwa [updf_ne _ _ hjn] at hj
  refine ⟨hw.block k hk (fun e=>?_),⟨hzz.1,?_,fun j hj=>?_,fun j hj hpj=>hzz.2.2.2 j hj (hps j hpj)⟩,Nat.lt_of_lt_of_le hk hw.size⟩
  ·injection e with e
   subst e
   exact hzz.2.2.2 n (fun e=>hin e.symm) (by rw [hn]; exact hg)
  ·show (updf h n (.ext x') i).zs (ρ i) k
   rw [updf_ne _ _ hin]; exact hzz.2.1
  ·by_cases hjn : j = n
   ·subst hjn; exact hzz.2.2.1 j (by rw [hn]; trivial)
   ·rw [updf_ne _ _ hjn] at hj; exact hzz.2.2.1 j hj
theorem Rel.putX {n g : Nat} {x x' : Ext} (R : Rel B w0 ρ h w) (hn : h n = .ext x) (hg : x.p (ρ n) g) (hw : w.grownBy w' (some g)) (hp : ∀ k,x'.p (ρ n) k→x.p (ρ n) k) (hz : x.z = false) (hq : x'.Q (ρ n) w') : Rel B w0 ρ (updf h n (.ext x')) w':=by
 have E:=R.ext n x hn
 have hat:=E.at_ g hg
 have hh : ∀ i,(updf h n (.ext x') i).here→(h i).here:=fun i hi=>by
  by_cases hin : i = n
  ·subst hin; rw [hn]; trivial
  ·rwa [updf_ne _ _ hin] at hi
 refine { below:=R.below.trans (below_of_only hw hat.1 R.size),gl0:=R.gl0,size:=Nat.le_trans R.size hw.size,blk:=fun i t cs hi=>?_,row:=fun i e sz els hi=>?_,sep:=fun i j g' hi hj hgi hgj=>R.sep i j g' (hh i hi) (hh j hj) hgi hgj,inj:=fun i g' hi hg'=>Nat.lt_of_lt_of_le (R.inj i g' (hh i hi) hg') hw.size,oth:=fun k o hk ho=>?_,ext:=fun i y hi=>?_ }
 ·by_cases hin : i = n
  ·subst hin; rw [updf_same] at hi; cases hi
  ·rw [updf_ne _ _ hin] at hi
   obtain ⟨g',vs,h1,h2,h3,h4⟩:=R.blk i t cs hi
   refine ⟨g',vs,h1,h2.grown hw (fun e=>?_),h3,DnL.keep (.putX hn hg hw hp hz) _ _ h4⟩
   injection e with e
   subst e
   exact E.apart i g (by rw [hi]; trivial) (by rw [h1]; rfl) hg
 ·by_cases hin : i = n
  ·subst hin; rw [updf_same] at hi; cases hi
  ·rw [updf_ne _ _ hin] at hi
   obtain ⟨A,c,css,h1,h2,h3,h4⟩:=R.row i e sz els hi
   refine ⟨A,c,css,h1,?_,h3,DnLL.keep (.putX hn hg hw hp hz) _ _ h4⟩
   rw [h1] at h2 ⊢
   refine own_grown1 h2 hw (fun ad ha hblk=>E.apart i g (by rw [hi]; trivial) (by rw [h1,ha]; simp [blkOf,hblk]) hg)
 ·have h1:=R.oth k o hk ho
  refine (hw.block k (Array.getElem?_eq_some_iff.1 h1).1 fun e=>?_).trans h1
  injection e with e
  subst e
  have:=(Array.getElem?_eq_some_iff.1 hk).1
  have:=hat.2.2 hz
  omega
 ·by_cases hin : i = n
  ·subst hin
   rw [updf_same] at hi
   injection hi with hi
   subst hi
   exact ⟨hq,fun k hk=>by have h1:=E.at_ k (hp k hk); have:=hw.size; exact ⟨h1.1,by omega,fun _=>h1.2.2 hz⟩,E.no,E.one,fun j g' hj hg' hk=>E.apart j g' (hh j hj) hg' (hp _ hk),fun j k hj hk hps=>by
    rw [updf_ne _ _ hj] at hps
    exact E.two j k hj (hp k hk) hps⟩
  ·rw [updf_ne _ _ hin] at hi
   have F:=R.ext i y hi
   refine ⟨y.st _ _ _ F.q fun k hk=>hw.block k (F.at_ k hk).2.1 fun e=>?_,fun k hk=>by have h1:=F.at_ k hk; have:=hw.size; exact ⟨h1.1,by omega,h1.2.2⟩,F.no,F.one,fun j g' hj hg'=>F.apart j g' (hh j hj) hg',fun j k hj hk hps=>?_⟩
   ·injection e with e
    subst e
    exact F.two n k (fun e=>hin e.symm) hk (by rw [hn]; exact hg)
   ·by_cases hjn : j = n
    ·subst hjn
     rw [updf_same] at hps
     exact F.two j k hj hk (by rw [hn]; exact hp k hps)
    ·rw [updf_ne _ _ hjn] at hps
     exact F.two j k hj hk hps
end
def mapX (P : Program) (k e : TypeId) (n : Nat) (D : DataW Unit) : Ext where
 p v j:=v = .map (some j)
 Q v w:=∃ g,v = .map (some g)∧w.ownsMap P k (plainElem P e) g n D
 st v w w' hQ hb:=by
  obtain ⟨g,e1,es,clock,h1,h2⟩:=hQ
  exact ⟨g,e1,es,clock,(hb g e1).trans h1,h2⟩
section
variable {P : Program} {B : Nat} {w0 : World} {h : List LB} {s : List TV} {o : Oper}
theorem S_makeMap {t k e : TypeId} (ho : o.op = .makeMap t none) : TStep P B w0 h s o (.row h.length) (some (.ext (mapX P k e 0 (.map [])))):=by
 intro ρ h' w a H hn R hx K Q hK
 have hnone:=hn rfl
 unfold Oper.wp
 have hb : Below w.heap.size w (w.alloc (.map #[] 0)):=(Below.refl _ _).alloc (Nat.le_refl _) _
 have hs : (w.alloc (.map #[] 0)).heap.size = w.heap.size + 1:=by show (w.heap.push _).size = _; simp
 have hp : ∀ j,(mapX P k e 0 (.map [])).p (.map (some w.heap.size)) j→w.heap.size ≤ j∧j < (w.alloc (.map #[] 0)).heap.size:=fun j hj=>by
  have hj' : Value.map (some w.heap.size) = .map (some j):=hj
  injection hj' with hj'
  injection hj' with hj'
  subst hj'
  omega
 have hrun : (execOp a.eval o).run P w = .ok (.value (.map (some w.heap.size))) (w.alloc (.map #[] 0)):=by simp [execOp,ho,run_makeMap]
 rw [hrun]
 refine hK (.map (some w.heap.size)) _ (updf ρ h.length (.map (some w.heap.size))) (R.addX hnone hb rfl rfl hp ⟨_,rfl,World.ownsMap_made w P k _⟩) (.addX hnone hb rfl hp) hb ?_
 simp only [Dn]
 refine ⟨?_,?_⟩
 ·show (updf h' h.length _ h.length).here
  rw [updf_same]; trivial
 ·show _ = updf ρ h.length _ h.length
  rw [updf_same]
theorem S_lookup {t k e : TypeId} {m x : Operand} {i n : Nat} {D : DataW Unit} {key z u : Value} {kl : Lit} {zd : DataW Unit} {zp : List MemPlace} (ho : o.op = .lookup t m x false) (hm : tev s m = .row i) (hi : hf h i = .ext (mapX P k e n D)) (hx : ∀ (C : Cx) (v : Value),Dn C (tev s x) v→v = key)
  (K : Maps.Keyed P k) (ht : P.underlying t = some (.map k e)) (hz : ∀ w,(zeroValue e).run P w = .ok z w) (hzd : plainElem (H:=Unit) P e z = some (zd,zp)) (hkey : keyOf P k key = some kl) (hu : ∀ v ps,plainElem (H:=Unit) P e v = some (D.atKey kl zd,ps)→v = u) :
  TStep P B w0 h s o (.v u) none:=.same fun ρ h' w a H R hh=>by
 have h1:=hh m (by simp [ho,Op.operands])
 have h2:=hh x (by simp [ho,Op.operands])
 rw [hm] at h1
 replace h2:=hx _ _ h2
 simp only [Dn] at h1
 have h3:=H.same hi (by simp) h1.1
 obtain ⟨g,e1,hown⟩:=(R.ext i _ h3).q
 obtain ⟨v,ps,hrun,hv⟩:=hown.lookup K ht (hz w) hzd hkey
 have h4 : a.eval m = .map (some g):=h1.2.trans e1
 rw [hu v ps hv] at hrun
 exact ⟨u,by simp [execOp,ho,h4,h2,hrun],by simp [Dn]⟩
end
section
variable {P : Program} {B : Nat} {w0 : World} {gh : List Value} {Q : Exit→St→Prop} {σ : St} {ops : Array Oper} {o : Oper} {rest : List Oper}
theorem TL.mapUpdate {t k e : TypeId} {m x y : Operand} {i n : Nat} {D d : DataW Unit} {key val : Value} {kl : Lit} {ps : List MemPlace} (hg : o.guard = none) (ho : o.op = .mapUpdate t m x y) (hm : tev σ.s m = .row i) (hi : hf σ.h i = .ext (mapX P k e n D)) (hx : ∀ (C : Cx) (v : Value),Dn C (tev σ.s x) v→v = key) (hy : tev σ.s y = .v val)
  (K : Maps.Keyed P k) (ht : P.underlying t = some (.map k e)) (hn : n < maxLen) (hkey : keyOf P k key = some kl) (hval : plainElem P e val = some (d,ps))
  (h : TL P B w0 gh ops rest ⟨match o.dst with | some d=>σ.s.set d .any | none=>σ.s,σ.h.set i (.ext (mapX P k e (n + 1) (D.put kl d))),σ.g⟩ Q) : TL P B w0 gh ops (o :: rest) σ Q:=fun ρ a w hr=>by
 have R:=hr.rel
 have h1:=tev_dn hr.slots m
 have h2:=tev_dn hr.slots x
 have h3:=tev_dn hr.slots y
 rw [hm] at h1
 replace h2:=hx _ _ h2
 rw [hy] at h3
 simp only [Dn] at h1 h3
 obtain ⟨g,e1,hown⟩:=(R.ext i _ hi).q
 have h4 : a.eval m = .map (some g):=h1.2.trans e1
 obtain ⟨w',hrun,hown',hgr⟩:=hown.update K ht hn hkey hval
 have hp : ∀ j,(mapX P k e (n + 1) (D.put kl d)).p (ρ i) j→(mapX P k e n D).p (ρ i) j:=fun j hj=>hj
 have KK : Keeps (cxOf B ρ (hf σ.h) w) (cxOf B ρ (updf (hf σ.h) i (.ext (mapX P k e (n + 1) (D.put kl d)))) w'):=.putX hi e1 hgr hp rfl
 refine wpList_plain hg fun K' hK=>?_
 unfold Oper.wp
 have hrun' : (execOp a.eval o).run P w = .ok .skip w':=by simp [execOp,ho,h4,h2,h3,hrun]
 rw [hrun']
 have hil : i < σ.h.length:=hf_lt hi (by simp)
 refine hK _ _ (h ρ _ _ ⟨?_,?_,?_,by rw [put_defers]; exact hr.defers⟩)
 ·simp only [hf_set hil]
  exact put_dn (DnL.keep KK _ _ hr.slots) (by simp [Dn])
 ·simp only [hf_set hil]
  exact DnL.keep KK _ _ hr.ghost
 ·simp only [hf_set hil]
  exact R.putX hi e1 hgr hp rfl ⟨g,e1,hown'⟩
end
end Go.Proofs.YtpgfhkbnngjegaaGreatDoor

namespace Go.Proofs.YtpgfhkbnngjegaaGreatDoor
open Go.RowKit
open Go.WideElems (Fit rg)
open Go.ChangeMaps (setBlock)
set_option linter.unusedVariables false
set_option linter.unusedSimpArgs false
section
variable {P : Program} {B : Nat} {w0 : World} {gh : List Value} {Q : Exit→St→Prop} {σ : St} {ops : Array Oper} {o : Oper} {rest : List Oper}
end
end Go.Proofs.YtpgfhkbnngjegaaGreatDoor
