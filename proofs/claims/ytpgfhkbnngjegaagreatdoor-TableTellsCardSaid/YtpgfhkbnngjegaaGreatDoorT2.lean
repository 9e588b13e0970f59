/- Local blocks and how they change: memory grows, a block is new, a block is written, a row is renewed by append, a row is only read from now on. No condition. -/
import Derived.Test.YtpgfhkbnngjegaaGreatDoorBase
import Derived.Test.YtpgfhkbnngjegaaGreatDoorBase
namespace Go.Proofs.YtpgfhkbnngjegaaGreatDoor
open Go.RowKit
set_option linter.unusedVariables false
set_option linter.unusedSimpArgs false
def updf {α : Type} (f : Nat→α) (n : Nat) (x : α) : Nat→α:=fun j=>if j = n then x else f j
theorem updf_same {α : Type} (f : Nat→α) (n : Nat) (x : α) : updf f n x n = x:=by simp [updf]
theorem updf_ne {α : Type} (f : Nat→α) {n j : Nat} (x : α) (h : j ≠ n) : updf f n x j = f j:=by simp [updf,h]
theorem ps_upd {ρ : Nat→Value} {h : Nat→LB} {n : Nat} {r : Value} {lb : LB} (hx : lb.nx) {k : Nat} (H : ∀ i,¬ (h i).ps (ρ i) k) : ∀ i,¬ (updf h n lb i).ps (updf ρ n r i) k:=fun i=>by
 by_cases hin : i = n
 ·subst hin; rw [updf_same]; exact LB.nx_ps hx
 ·rw [updf_ne _ _ hin,updf_ne _ _ hin]; exact H i
theorem ps_updh {ρ : Nat→Value} {h : Nat→LB} {n : Nat} {lb : LB} (hx : lb.nx) {k : Nat} (H : ∀ i,¬ (h i).ps (ρ i) k) : ∀ i,¬ (updf h n lb i).ps (ρ i) k:=fun i=>by
 by_cases hin : i = n
 ·subst hin; rw [updf_same]; exact LB.nx_ps hx
 ·rw [updf_ne _ _ hin]; exact H i
theorem ps_of_upd {ρ : Nat→Value} {h : Nat→LB} {n i k : Nat} {r : Value} {lb : LB} (hx : lb.nx) (hp : (updf h n lb i).ps (updf ρ n r i) k) : (h i).ps (ρ i) k:=by
 by_cases hin : i = n
 ·subst hin; rw [updf_same] at hp; exact absurd hp (LB.nx_ps hx)
 ·rwa [updf_ne _ _ hin,updf_ne _ _ hin] at hp
theorem Rel.ps_lt {B : Nat} {w0 w : World} {ρ : Nat→Value} {h : Nat→LB} (R : Rel B w0 ρ h w) {i k : Nat} (hp : (h i).ps (ρ i) k) : B ≤ k∧k < w.heap.size∧True:=by
 obtain ⟨x,e,hk⟩:=LB.ps_of hp
 have:=(R.ext i x e).at_ k hk
 exact ⟨this.1,this.2.1,trivial⟩
theorem Rel.ext_of {B : Nat} {w0 w : World} {ρ : Nat→Value} {h h' : Nat→LB} (R : Rel B w0 ρ h w) (hhere : ∀ i,(h' i).here→(h i).here) (hext : ∀ i x,h' i = .ext x→h i = .ext x) : ∀ i x,h' i = .ext x→ExtOk B w0 ρ h' w i x:=fun i x e=>by
 have E:=R.ext i x (hext i x e)
 exact ⟨E.q,E.at_,E.no,E.one,fun j g hj hg=>E.apart j g (hhere j hj) hg,fun j k hj hk hp=>by
  obtain ⟨y,e1,h1⟩:=LB.ps_of hp
  exact E.two j k hj hk (by rw [hext j y e1]; exact h1)⟩
theorem ps_no {ρ : Nat→Value} {h h' : Nat→LB} {k : Nat} (hext : ∀ i x,h' i = .ext x→h i = .ext x) (H : ∀ i,¬ (h i).ps (ρ i) k) : ∀ i,¬ (h' i).ps (ρ i) k:=fun i hp=>by
 obtain ⟨y,e1,h1⟩:=LB.ps_of hp
 exact H i (by rw [hext i y e1]; exact h1)
theorem ExtOk.upd {B : Nat} {w0 w w' : World} {ρ : Nat→Value} {h : Nat→LB} {i n : Nat} {x : Ext} {r : Value} {lb : LB} (E : ExtOk B w0 ρ h w i x) (hin : i ≠ n) (hx : lb.nx) (hs : w.heap.size ≤ w'.heap.size) (hb : ∀ k,x.p (ρ i) k→w'.heap[k]? = w.heap[k]?)
  (hr : ∀ g,blkOf r = some g→¬ x.p (ρ i) g) : ExtOk B w0 (updf ρ n r) (updf h n lb) w' i x where
 q:=by rw [updf_ne _ _ hin]; exact x.st _ _ _ E.q hb
 at_ k hk:=by rw [updf_ne _ _ hin] at hk; have:=E.at_ k hk; exact ⟨this.1,by omega,this.2.2⟩
 no:=by rw [updf_ne _ _ hin]; exact E.no
 one:=by rw [updf_ne _ _ hin]; exact E.one
 apart j g hj hg:=by
  rw [updf_ne (j:=i) _ _ hin]
  by_cases hjn : j = n
  ·subst hjn; rw [updf_same] at hg; exact hr g hg
  ·rw [updf_ne _ _ hjn] at hj hg; exact E.apart j g hj hg
 two j k hj hk:=by
  rw [updf_ne (j:=i) _ _ hin] at hk
  by_cases hjn : j = n
  ·subst hjn; rw [updf_same]; exact LB.nx_ps hx
  ·rw [updf_ne _ _ hjn,updf_ne _ _ hjn]; exact E.two j k hj hk
theorem ExtOk.updh {B : Nat} {w0 w w' : World} {ρ : Nat→Value} {h : Nat→LB} {i n : Nat} {x : Ext} {lb : LB} (E : ExtOk B w0 ρ h w i x) (hn : (h n).here) (hx : lb.nx) (hs : w.heap.size ≤ w'.heap.size) (hb : ∀ k,x.p (ρ i) k→w'.heap[k]? = w.heap[k]?) : ExtOk B w0 ρ (updf h n lb) w' i x where
 q:=x.st _ _ _ E.q hb
 at_ k hk:=by have:=E.at_ k hk; exact ⟨this.1,by omega,this.2.2⟩
 no:=E.no
 one:=E.one
 apart j g hj hg:=by
  by_cases hjn : j = n
  ·subst hjn; exact E.apart j g hn hg
  ·rw [updf_ne _ _ hjn] at hj; exact E.apart j g hj hg
 two j k hj hk:=by
  by_cases hjn : j = n
  ·subst hjn; rw [updf_same]; exact LB.nx_ps hx
  ·rw [updf_ne _ _ hjn]; exact E.two j k hj hk
section
variable {B : Nat} {w0 w w' : World} {ρ : Nat→Value} {h : Nat→LB}
theorem Z_of {B B' : Nat} {ρ : Nat→Value} {h h' : Nat→LB} {w w' : World} {i k : Nat} (hhere : ∀ j,(h' j).here→(h j).here) (hext : ∀ j x,h' j = .ext x→h j = .ext x) (hi : ∀ x,h i = .ext x→h' i = .ext x) (hz : (cxOf B ρ h w).Z i k) : (cxOf B' ρ h' w').Z i k:=by
 refine ⟨hz.1,?_,fun j hj=>hz.2.2.1 j (hhere j hj),fun j hj hp=>?_⟩
 ·obtain ⟨x,e,hk,hzz⟩:=LB.zs_of hz.2.1
  show (h' i).zs (ρ i) k
  rw [hi x e]; exact ⟨hzz,hk⟩
 ·obtain ⟨x,e,hk⟩:=LB.ps_of hp
  exact hz.2.2.2 j hj (by rw [hext j x e]; exact hk)
theorem Keeps.grow (hb : Below w.heap.size w w') : Keeps (cxOf B ρ h w) (cxOf B ρ h w') where
 blk k hS hk:=⟨hb.block k hk,hS,Nat.lt_of_lt_of_le hk hb.size⟩
 base:=Nat.le_refl _
 loc i hi:=⟨hi,rfl⟩
 own _ _ _ _ _ ho:=ho
 zn i k hi hz hk:=⟨hb.block k hk,hz,Nat.lt_of_lt_of_le hk hb.size⟩
theorem Rel.isC {n g : Nat} (R : Rel B w0 ρ h w) (hn : (h n).here) (hg : blkOf (ρ n) = some g) : ∃ cs ty fr,w.heap[g]? = some (.cells cs ty fr):=by
 cases hh : h n with
 | none=>rw [hh] at hn; exact hn.elim
 | ext x=>rw [(R.ext n x hh).no] at hg; cases hg
 | cells t cs=>
  obtain ⟨g',vs,h1,h2,_⟩:=R.blk n t cs hh
  rw [h1] at hg
  simp only [blkOf,Option.some.injEq] at hg
  subst hg
  exact ⟨_,_,_,h2⟩
 | row e sz els=>
  obtain ⟨A,c,css,h1,h2,_⟩:=R.row n e sz els hh
  rw [h1] at h2 hg
  rcases h2.2 with ⟨hv,_⟩ | ⟨g',cap,cur,hv,_,h3,_⟩
  ·rw [hv] at hg; cases hg
  ·rw [hv] at hg
   simp only [blkOf,Option.some.injEq] at hg
   subst hg
   exact ⟨_,_,_,h3⟩
theorem Rel.glb (R : Rel B w0 ρ h w) : GlB w.heap.size w where
 at_ g vs hg:=by
  obtain ⟨h1,h2⟩:=R.gl0.at_ g vs hg
  exact ⟨Nat.lt_of_lt_of_le h1 R.size,fun j x hx=>cell_keep (a:=⟨g,j,none⟩) (R.below.block g h1) (h2 j x hx)⟩
 obj g cs hg:=by
  obtain ⟨h1,ty,fr,h2⟩:=R.gl0.obj g cs hg
  exact ⟨Nat.lt_of_lt_of_le h1 R.size,ty,fr,(R.below.block g h1).trans h2⟩
 ifc g hg:=by
  obtain ⟨h1,v,h2,h3⟩:=R.gl0.ifc g hg
  exact ⟨Nat.lt_of_lt_of_le h1 R.size,v,cell_keep (a:=⟨g,0,none⟩) (R.below.block g h1) h2,h3⟩
theorem Rel.grow (R : Rel B w0 ρ h w) (hb : Below w.heap.size w w') : Rel B w0 ρ h w' where
 below:=R.below.trans (hb.mono R.size)
 gl0:=R.gl0
 size:=Nat.le_trans R.size hb.size
 blk i t cs hi:=by
  obtain ⟨g,vs,h1,h2,h3,h4⟩:=R.blk i t cs hi
  exact ⟨g,vs,h1,h2.below hb,h3,DnL.keep (.grow hb) _ _ h4⟩
 row i e sz els hi:=by
  obtain ⟨A,c,css,h1,h2,h3,h4⟩:=R.row i e sz els hi
  exact ⟨A,c,css,h1,own_below h2 hb,h3,DnLL.keep (.grow hb) _ _ h4⟩
 sep:=R.sep
 inj i g hi hg:=Nat.lt_of_lt_of_le (R.inj i g hi hg) hb.size
 oth:=R.oth.trans (.below hb)
 ext i x hi:=(R.ext i x hi).keep hb.size fun k hk=>hb.block k ((R.ext i x hi).at_ k hk).2.1
theorem Keeps.add {n : Nat} {r : Value} {lb : LB} (hn : h n = .none) (hb : Below w.heap.size w w') (hr : ∀ g,blkOf r = some g→w.heap.size ≤ g∧g < w'.heap.size) (hx : lb.nx:=by exact trivial) :
  Keeps (cxOf B ρ h w) (cxOf B (updf ρ n r) (updf h n lb) w') where
 blk k hS hk:=⟨hb.block k hk,⟨fun i hi=>by
  by_cases hin : i = n
  ·subst hin
   rw [updf_same]
   intro he
   have:=(hr _ he).1
   have hk' : k < w.heap.size:=hk
   omega
  ·rw [updf_ne _ _ hin] at hi ⊢
   exact hS.1 i hi,ps_upd hx hS.2⟩,Nat.lt_of_lt_of_le hk hb.size⟩
 base:=Nat.le_refl _
 loc i hi:=by
  have hin : i ≠ n:=by
   rintro rfl
   have hi' : (h i).here:=hi
   rw [hn] at hi'
   exact hi'
  exact ⟨by show (updf h n lb i).here; rw [updf_ne _ _ hin]; exact hi,by show updf ρ n r i = ρ i; rw [updf_ne _ _ hin]⟩
 own _ _ _ _ _ ho:=ho
 zn i k hi hz hk:=by
  have hin : i ≠ n:=by
   rintro rfl
   have hi' : (h i).here:=hi
   rw [hn] at hi'
   exact hi'
  have hk' : k < w.heap.size:=hk
  refine ⟨hb.block k hk,⟨?_,?_,fun j hj=>?_,fun j hj hp=>?_⟩,Nat.lt_of_lt_of_le hk hb.size⟩
  ·show blkOf (updf ρ n r i) = Option.none
   rw [updf_ne _ _ hin]; exact hz.1
  ·show (updf h n lb i).zs (updf ρ n r i) k
   rw [updf_ne _ _ hin,updf_ne _ _ hin]; exact hz.2.1
  ·by_cases hjn : j = n
   ·subst hjn
    rw [updf_same]
    intro he
    have:=(hr _ he).1
    omega
   ·rw [updf_ne _ _ hjn] at hj ⊢; exact hz.2.2.1 j hj
  ·exact hz.2.2.2 j hj (ps_of_upd hx hp)
theorem Rel.add {n : Nat} {r : Value} {lb : LB} (R : Rel B w0 ρ h w) (hn : h n = .none) (hb : Below w.heap.size w w') (hr : ∀ g,blkOf r = some g→w.heap.size ≤ g∧g < w'.heap.size)
  (hc : ∀ t cs,lb = .cells t cs→∃ g vs,r = .pointer (some ⟨g,0,none⟩)∧Blk w' g t vs.toArray∧B ≤ g∧DnL (cxOf B (updf ρ n r) (updf h n lb) w') cs vs)
  (ho : ∀ e sz els,lb = .row e sz els→∃ A c css,r = .slice A els.length c∧w'.ownsRow B e sz r els.length css.flatten∧(∀ x ∈ css,x.length = sz)∧DnLL (cxOf B (updf ρ n r) (updf h n lb) w') els css)
  (hx : lb.nx:=by exact trivial) :
  Rel B w0 (updf ρ n r) (updf h n lb) w' where
 below:=R.below.trans (hb.mono R.size)
 gl0:=R.gl0
 size:=Nat.le_trans R.size hb.size
 blk i t cs hi:=by
  by_cases hin : i = n
  ·subst hin
   rw [updf_same] at hi ⊢
   exact hc t cs hi
  ·rw [updf_ne _ _ hin] at hi ⊢
   obtain ⟨g,vs,h1,h2,h3,h4⟩:=R.blk i t cs hi
   exact ⟨g,vs,h1,h2.below hb,h3,DnL.keep (.add hn hb hr hx) _ _ h4⟩
 row i e sz els hi:=by
  by_cases hin : i = n
  ·subst hin
   rw [updf_same] at hi ⊢
   exact ho e sz els hi
  ·rw [updf_ne _ _ hin] at hi ⊢
   obtain ⟨A,c,css,h1,h2,h3,h4⟩:=R.row i e sz els hi
   exact ⟨A,c,css,h1,own_below h2 hb,h3,DnLL.keep (.add hn hb hr hx) _ _ h4⟩
 sep i j g hi hj hgi hgj:=by
  by_cases hin : i = n <;> by_cases hjn : j = n
  ·rw [hin,hjn]
  ·subst hin
   rw [updf_same] at hgi
   rw [updf_ne _ _ hjn] at hj hgj
   have h1:=hr g hgi
   have h2:=R.inj j g hj hgj
   omega
  ·subst hjn
   rw [updf_same] at hgj
   rw [updf_ne _ _ hin] at hi hgi
   have h1:=hr g hgj
   have h2:=R.inj i g hi hgi
   omega
  ·rw [updf_ne _ _ hin] at hi hgi
   rw [updf_ne _ _ hjn] at hj hgj
   exact R.sep i j g hi hj hgi hgj
 inj i g hi hg:=by
  by_cases hin : i = n
  ·subst hin
   rw [updf_same] at hg
   exact (hr g hg).2
  ·rw [updf_ne _ _ hin] at hi hg
   exact Nat.lt_of_lt_of_le (R.inj i g hi hg) hb.size
 oth:=R.oth.trans (.below hb)
 ext i x hi:=by
  have hin : i ≠ n:=by rintro rfl; rw [updf_same] at hi; subst hi; exact hx
  rw [updf_ne _ _ hin] at hi
  have E:=R.ext i x hi
  refine E.upd hin hx hb.size (fun k hk=>hb.block k (E.at_ k hk).2.1) fun g hg hp=>?_
  have h1:=(hr g hg).1
  have h2:=(E.at_ g hp).2.1
  omega
theorem Keeps.put {n g : Nat} {lb : LB} (hn : (h n).here) (hl : lb.here) (hg : blkOf (ρ n) = some g) (hw : w.grownBy w' (some g)) (hx : lb.nx:=by exact trivial) :
  Keeps (cxOf B ρ h w) (cxOf B ρ (updf h n lb) w') where
 blk k hS hk:=⟨hw.block k hk (fun e=>hS.1 n hn (by rw [hg]; exact e.symm)),⟨fun i hi=>by
  by_cases hin : i = n
  ·subst hin
   exact hS.1 i hn
  ·rw [updf_ne _ _ hin] at hi
   exact hS.1 i hi,ps_updh hx hS.2⟩,Nat.lt_of_lt_of_le hk hw.size⟩
 base:=Nat.le_refl _
 loc i hi:=by
  refine ⟨?_,rfl⟩
  show (updf h n lb i).here
  by_cases hin : i = n
  ·subst hin; rw [updf_same]; exact hl
  ·rw [updf_ne _ _ hin]; exact hi
 own _ _ _ _ _ ho:=ho
 zn i k hi hz hk:=by
  have hin : i ≠ n:=by
   rintro rfl
   have h1:=hz.1
   rw [hg] at h1
   cases h1
  refine ⟨hw.block k hk (fun e=>hz.2.2.1 n hn (by rw [hg]; exact e.symm)),⟨hz.1,?_,fun j hj=>?_,fun j hj hp=>?_⟩,Nat.lt_of_lt_of_le hk hw.size⟩
  ·show (updf h n lb i).zs (ρ i) k
   rw [updf_ne _ _ hin]; exact hz.2.1
  ·by_cases hjn : j = n
   ·subst hjn; exact hz.2.2.1 j hn
   ·rw [updf_ne _ _ hjn] at hj; exact hz.2.2.1 j hj
  ·by_cases hjn : j = n
   ·subst hjn; rw [updf_same] at hp; exact absurd hp (LB.nx_ps hx)
   ·rw [updf_ne _ _ hjn] at hp; exact hz.2.2.2 j hj hp
theorem Rel.put {n g : Nat} {lb : LB} (R : Rel B w0 ρ h w) (hn : (h n).here) (hl : lb.here) (hg : blkOf (ρ n) = some g) (hB : B ≤ g) (hw : w.grownBy w' (some g))
  (hc : ∀ t cs,lb = .cells t cs→∃ g vs,ρ n = .pointer (some ⟨g,0,none⟩)∧Blk w' g t vs.toArray∧B ≤ g∧DnL (cxOf B ρ (updf h n lb) w') cs vs)
  (ho : ∀ e sz els,lb = .row e sz els→∃ A c css,ρ n = .slice A els.length c∧w'.ownsRow B e sz (ρ n) els.length css.flatten∧(∀ x ∈ css,x.length = sz)∧DnLL (cxOf B ρ (updf h n lb) w') els css)
  (hx : lb.nx:=by exact trivial) :
  Rel B w0 ρ (updf h n lb) w' where
 below:=R.below.trans (below_of_only hw hB R.size)
 gl0:=R.gl0
 size:=Nat.le_trans R.size hw.size
 blk i t cs hi:=by
  by_cases hin : i = n
  ·subst hin
   rw [updf_same] at hi
   exact hc t cs hi
  ·rw [updf_ne _ _ hin] at hi
   obtain ⟨g',vs,h1,h2,h3,h4⟩:=R.blk i t cs hi
   refine ⟨g',vs,h1,h2.grown hw (fun e=>?_),h3,DnL.keep (.put hn hl hg hw hx) _ _ h4⟩
   injection e with e
   subst e
   exact hin (R.sep i n g (by rw [hi]; trivial) hn (by rw [h1]; rfl) hg)
 row i e sz els hi:=by
  by_cases hin : i = n
  ·subst hin
   rw [updf_same] at hi
   exact ho e sz els hi
  ·rw [updf_ne _ _ hin] at hi
   obtain ⟨A,c,css,h1,h2,h3,h4⟩:=R.row i e sz els hi
   refine ⟨A,c,css,h1,?_,h3,DnLL.keep (.put hn hl hg hw hx) _ _ h4⟩
   rw [h1] at h2 ⊢
   refine own_grown1 h2 hw (fun ad ha hblk=>hin (R.sep i n g (by rw [hi]; trivial) hn (by rw [h1,ha]; simp [blkOf,hblk]) hg))
 sep i j g' hi hj hgi hgj:=by
  have hh : ∀ i,(updf h n lb i).here→(h i).here:=fun i hi=>by
   by_cases hin : i = n
   ·subst hin; exact hn
   ·rwa [updf_ne _ _ hin] at hi
  exact R.sep i j g' (hh i hi) (hh j hj) hgi hgj
 inj i g' hi hg':=by
  have hh : (h i).here:=by
   by_cases hin : i = n
   ·subst hin; exact hn
   ·rwa [updf_ne _ _ hin] at hi
  exact Nat.lt_of_lt_of_le (R.inj i g' hh hg') hw.size
 oth:=R.oth.trans (.grown hw fun k e=>by injection e with e; subst e; exact R.isC hn hg)
 ext i x hi:=by
  have hin : i ≠ n:=by rintro rfl; rw [updf_same] at hi; subst hi; exact hx
  rw [updf_ne _ _ hin] at hi
  have E:=R.ext i x hi
  exact E.updh hn hx hw.size fun k hk=>hw.block k (E.at_ k hk).2.1 fun e=>by
   injection e with e
   subst e
   exact E.apart n k hn hg hk
end
mutual
def kp (p : Nat→Bool) : TV→TV
 | .agg ts=>.agg (kpL p ts)
 | .tup ts=>.tup (kpL p ts)
 | .fn f ts=>.fn f (kpL p ts)
 | .ptr i off=>if p i then .ptr i off else .any
 | .row i=>if p i then .row i else .any
 | .sl b els=>.sl b (kpLL p els)
 | .eptr ts=>.eptr (kpL p ts)
 | .osl e sz els=>.osl e sz (kpLL p els)
 | .z i t=>if p i then .z i t else .any
 | .win i k sz=>if p i then .win i k sz else .any
 | .any=>.any
 | .v x=>.v x
 | .nil_=>.nil_
def kpL (p : Nat→Bool) : List TV→List TV
 | []=>[]
 | t :: ts=>kp p t :: kpL p ts
def kpLL (p : Nat→Bool) : List (List TV)→List (List TV)
 | []=>[]
 | t :: ts=>kpL p t :: kpLL p ts
end
theorem kpLL_len (p : Nat→Bool) : ∀ els : List (List TV),(kpLL p els).length = els.length
 | []=>rfl
 | t :: ts=>by simp [kpLL,kpLL_len p ts]
theorem kpLL_nil {p : Nat→Bool} {els : List (List TV)} (h : kpLL p els ≠ []) : els ≠ []:=by
 rintro rfl
 exact h rfl
def Cx.less (C : Cx) (p : Nat→Bool) : Cx:={ C with pres:=fun i=>C.pres i∧p i = true }
mutual
theorem Dn.kp {C : Cx} (p : Nat→Bool) : ∀ (t : TV) (u : Value),Dn C t u→Dn (C.less p) (kp p t) u
 | .any,u,h=>by simp [Dn,Go.Proofs.YtpgfhkbnngjegaaGreatDoor.kp]
 | .v x,u,h=>by simp only [Dn,Go.Proofs.YtpgfhkbnngjegaaGreatDoor.kp] at h ⊢; exact h
 | .nil_,u,h=>by simp only [Dn,Go.Proofs.YtpgfhkbnngjegaaGreatDoor.kp] at h ⊢; exact h
 | .agg ts,u,h=>by
  simp only [Dn,Go.Proofs.YtpgfhkbnngjegaaGreatDoor.kp] at h ⊢
  obtain ⟨vs,h1,h2⟩:=h
  exact ⟨vs,h1,DnL.kp p ts vs h2⟩
 | .tup ts,u,h=>by
  simp only [Dn,Go.Proofs.YtpgfhkbnngjegaaGreatDoor.kp] at h ⊢
  obtain ⟨vs,h1,h2⟩:=h
  exact ⟨vs,h1,DnL.kp p ts vs h2⟩
 | .fn f ts,u,h=>by
  simp only [Dn,Go.Proofs.YtpgfhkbnngjegaaGreatDoor.kp] at h ⊢
  obtain ⟨vs,h1,h2⟩:=h
  exact ⟨vs,h1,DnL.kp p ts vs h2⟩
 | .ptr i off,u,h=>by
  simp only [Go.Proofs.YtpgfhkbnngjegaaGreatDoor.kp]
  split
  ·simp only [Dn] at h ⊢
   exact ⟨⟨h.1,by assumption⟩,h.2⟩
  ·simp [Dn]
 | .row i,u,h=>by
  simp only [Go.Proofs.YtpgfhkbnngjegaaGreatDoor.kp]
  split
  ·simp only [Dn] at h ⊢
   exact ⟨⟨h.1,by assumption⟩,h.2⟩
  ·simp [Dn]
 | .sl b els,u,h=>by
  simp only [Dn,Go.Proofs.YtpgfhkbnngjegaaGreatDoor.kp] at h ⊢
  obtain ⟨A,c,css,sz,h1,h2,h3,h4,h5,h6,h7⟩:=h
  rw [kpLL_len]
  exact ⟨A,c,css,sz,h1,h2,h3,fun ha=>by rw [h4 ha]; rfl,h5,DnLL.kp p els css h6,fun ad ha=>⟨fun hne=>(h7 ad ha).1 (kpLL_nil hne),(h7 ad ha).2⟩⟩
 | .eptr ts,u,h=>by
  simp only [Dn,Go.Proofs.YtpgfhkbnngjegaaGreatDoor.kp] at h ⊢
  obtain ⟨ad,vs,h1,h2,h3,h4,h5⟩:=h
  exact ⟨ad,vs,h1,h2,h3,DnL.kp p ts vs h4,h5⟩
 | .osl e sz els,u,h=>by
  simp only [Dn,Go.Proofs.YtpgfhkbnngjegaaGreatDoor.kp] at h ⊢
  obtain ⟨A,c,css,h1,h2,h3,h4⟩:=h
  rw [kpLL_len]
  exact ⟨A,c,css,h1,h2,h3,DnLL.kp p els css h4⟩
 | .z i t,u,h=>by
  simp only [Go.Proofs.YtpgfhkbnngjegaaGreatDoor.kp]
  split
  ·simp only [Dn] at h ⊢
   exact ⟨⟨h.1,by assumption⟩,h.2⟩
  ·simp [Dn]
 | .win i k sz,u,h=>by
  simp only [Go.Proofs.YtpgfhkbnngjegaaGreatDoor.kp]
  split
  ·simp only [Dn] at h ⊢
   exact ⟨⟨h.1,by assumption⟩,h.2⟩
  ·simp [Dn]
theorem DnL.kp {C : Cx} (p : Nat→Bool) : ∀ (ts : List TV) (us : List Value),DnL C ts us→DnL (C.less p) (kpL p ts) us
 | [],us,h=>by simp only [DnL,kpL] at h ⊢; exact h
 | t :: ts,us,h=>by
  simp only [DnL,kpL] at h ⊢
  obtain ⟨u,us',h1,h2,h3⟩:=h
  exact ⟨u,us',h1,Dn.kp p t u h2,DnL.kp p ts us' h3⟩
theorem DnLL.kp {C : Cx} (p : Nat→Bool) : ∀ (ts : List (List TV)) (us : List (List Value)),DnLL C ts us→DnLL (C.less p) (kpLL p ts) us
 | [],us,h=>by simp only [DnLL,kpLL] at h ⊢; exact h
 | t :: ts,us,h=>by
  simp only [DnLL,kpLL] at h ⊢
  obtain ⟨u,us',h1,h2,h3⟩:=h
  exact ⟨u,us',h1,DnL.kp p t u h2,DnLL.kp p ts us' h3⟩
end
def LB.kp (p : Nat→Bool) : LB→LB
 | .none=>.none
 | .cells t cs=>.cells t (kpL p cs)
 | .row e sz els=>.row e sz (kpLL p els)
 | .ext x=>.ext x
theorem LB.kp_ext {p : Nat→Bool} {b : LB} {x : Ext} (h : b.kp p = .ext x) : b = .ext x:=by cases b <;> cases h <;> rfl
theorem LB.kp_ps {p : Nat→Bool} {b : LB} {v : Value} {k : Nat} : (b.kp p).ps v k↔b.ps v k:=by cases b <;> exact Iff.rfl
theorem LB.kp_zs {p : Nat→Bool} {b : LB} {v : Value} {k : Nat} : (b.kp p).zs v k↔b.zs v k:=by cases b <;> exact Iff.rfl
theorem LB.kp_here {p : Nat→Bool} {b : LB} : (b.kp p).here↔b.here:=by cases b <;> simp [LB.kp,LB.here]
def bar (n : Nat) : Nat→Bool:=fun i=>decide (i ≠ n)
section
variable {B : Nat} {w0 w w' : World} {ρ : Nat→Value} {h : Nat→LB}
theorem Keeps.renew {n : Nat} {r : Value} {lb : LB} (hn : (h n).here) (hw : w.grownBy w' (blkOf (ρ n))) (hr : ∀ g,blkOf r = some g→blkOf (ρ n) = some g∨w.heap.size ≤ g) (hx : lb.nx:=by exact trivial) :
  Keeps ((cxOf B ρ h w).less (bar n)) (cxOf B (updf ρ n r) (updf (fun i=>(h i).kp (bar n)) n lb) w') where
 blk k hS hk:=⟨hw.block k hk (fun e=>hS.1 n hn e.symm),⟨fun i hi=>by
  by_cases hin : i = n
  ·subst hin
   rw [updf_same]
   intro he
   rcases hr _ he with h1 | h1
   ·exact hS.1 i hn h1
   ·have hk' : k < w.heap.size:=hk
    omega
  ·rw [updf_ne _ _ hin] at hi ⊢
   exact hS.1 i (LB.kp_here.1 hi),ps_upd hx fun i hp=>hS.2 i (LB.kp_ps.1 hp)⟩,Nat.lt_of_lt_of_le hk hw.size⟩
 base:=Nat.le_refl _
 loc i hi:=by
  obtain ⟨h1,h2'⟩ : (h i).here∧bar n i = true:=hi
  have h2 : i ≠ n:=by simpa [bar] using h2'
  exact ⟨by show (updf (fun i=>(h i).kp (bar n)) n lb i).here; rw [updf_ne _ _ h2]; exact LB.kp_here.2 h1,by show updf ρ n r i = ρ i; rw [updf_ne _ _ h2]⟩
 own _ _ _ _ _ ho:=ho
 zn i k hi hz hk:=by
  obtain ⟨h1,h2'⟩ : (h i).here∧bar n i = true:=hi
  have hin : i ≠ n:=by simpa [bar] using h2'
  have hk' : k < w.heap.size:=hk
  refine ⟨hw.block k hk (fun e=>hz.2.2.1 n hn e.symm),⟨?_,?_,fun j hj=>?_,fun j hj hp=>?_⟩,Nat.lt_of_lt_of_le hk hw.size⟩
  ·show blkOf (updf ρ n r i) = Option.none
   rw [updf_ne _ _ hin]; exact hz.1
  ·show (updf (fun i=>(h i).kp (bar n)) n lb i).zs (updf ρ n r i) k
   rw [updf_ne _ _ hin,updf_ne _ _ hin]; exact LB.kp_zs.2 hz.2.1
  ·by_cases hjn : j = n
   ·subst hjn
    rw [updf_same]
    intro he
    rcases hr _ he with h3 | h3
    ·exact hz.2.2.1 j hn h3
    ·omega
   ·rw [updf_ne _ _ hjn] at hj ⊢; exact hz.2.2.1 j (LB.kp_here.1 hj)
  ·exact hz.2.2.2 j hj (LB.kp_ps.1 (ps_of_upd (h:=fun i=>(h i).kp (bar n)) hx hp))
theorem Rel.renew {n : Nat} {r : Value} {lb : LB} (R : Rel B w0 ρ h w) (hn : (h n).here) (hw : w.grownBy w' (blkOf (ρ n))) (hBn : ∀ g,blkOf (ρ n) = some g→B ≤ g)
  (hr : ∀ g,blkOf r = some g→g < w'.heap.size∧(blkOf (ρ n) = some g∨w.heap.size ≤ g))
  (hc : ∀ t cs,lb = .cells t cs→∃ g vs,r = .pointer (some ⟨g,0,none⟩)∧Blk w' g t vs.toArray∧B ≤ g∧DnL (cxOf B (updf ρ n r) (updf (fun i=>(h i).kp (bar n)) n lb) w') cs vs)
  (ho : ∀ e sz els,lb = .row e sz els→∃ A c css,r = .slice A els.length c∧w'.ownsRow B e sz r els.length css.flatten∧(∀ x ∈ css,x.length = sz)∧DnLL (cxOf B (updf ρ n r) (updf (fun i=>(h i).kp (bar n)) n lb) w') els css)
  (hx : lb.nx:=by exact trivial) :
  Rel B w0 (updf ρ n r) (updf (fun i=>(h i).kp (bar n)) n lb) w' where
 gl0:=R.gl0
 below:=R.below.trans (by
  refine ⟨hw.os,hw.tape,hw.output,hw.size,fun k hk=>hw.block k (Nat.lt_of_lt_of_le hk R.size) (fun e=>?_)⟩
  have:=hBn k e.symm
  omega)
 size:=Nat.le_trans R.size hw.size
 blk i t cs hi:=by
  by_cases hin : i = n
  ·subst hin
   rw [updf_same] at hi ⊢
   exact hc t cs hi
  ·rw [updf_ne _ _ hin] at hi ⊢
   cases hh : h i with
   | none=>rw [hh] at hi; cases hi
   | ext x=>rw [hh] at hi; cases hi
   | row e sz els=>rw [hh] at hi; cases hi
   | cells t' cs'=>
    rw [hh] at hi
    simp only [LB.kp,LB.cells.injEq] at hi
    obtain ⟨rfl,rfl⟩:=hi
    obtain ⟨g,vs,h1,h2,h3,h4⟩:=R.blk i _ _ hh
    refine ⟨g,vs,h1,h2.grown hw (fun e=>?_),h3,DnL.keep (.renew hn hw (fun g hg=>(hr g hg).2) hx) _ _ (DnL.kp (bar n) _ _ h4)⟩
    exact hin (R.sep i n g (by rw [hh]; trivial) hn (by rw [h1]; rfl) e)
 row i e sz els hi:=by
  by_cases hin : i = n
  ·subst hin
   rw [updf_same] at hi ⊢
   exact ho e sz els hi
  ·rw [updf_ne _ _ hin] at hi ⊢
   cases hh : h i with
   | none=>rw [hh] at hi; cases hi
   | ext x=>rw [hh] at hi; cases hi
   | cells t' cs'=>rw [hh] at hi; cases hi
   | row e' sz' els'=>
    rw [hh] at hi
    simp only [LB.kp,LB.row.injEq] at hi
    obtain ⟨rfl,rfl,rfl⟩:=hi
    obtain ⟨A,c,css,h1,h2,h3,h4⟩:=R.row i _ _ _ hh
    rw [kpLL_len]
    refine ⟨A,c,css,h1,?_,h3,DnLL.keep (.renew hn hw (fun g hg=>(hr g hg).2) hx) _ _ (DnLL.kp (bar n) _ _ h4)⟩
    rw [h1] at h2 ⊢
    rcases hA : A with _ | ad
    ·subst hA; exact h2.kept hw (.inl rfl)
    ·subst hA
     refine h2.kept hw (.inr (fun e=>hin ?_))
     simp only [Value.ownBlock] at e
     exact R.sep i n ad.block (by rw [hh]; trivial) hn (by rw [h1]; rfl) e.symm
 sep i j g hi hj hgi hgj:=by
  by_cases hin : i = n <;> by_cases hjn : j = n
  ·rw [hin,hjn]
  ·subst hin
   rw [updf_same] at hgi
   rw [updf_ne _ _ hjn] at hj hgj
   rcases (hr g hgi).2 with h1 | h1
   ·exact R.sep i j g hn (LB.kp_here.1 hj) h1 hgj
   ·have h2:=R.inj j g (LB.kp_here.1 hj) hgj
    omega
  ·subst hjn
   rw [updf_same] at hgj
   rw [updf_ne _ _ hin] at hi hgi
   rcases (hr g hgj).2 with h1 | h1
   ·exact R.sep i j g (LB.kp_here.1 hi) hn hgi h1
   ·have h2:=R.inj i g (LB.kp_here.1 hi) hgi
    omega
  ·rw [updf_ne _ _ hin] at hi hgi
   rw [updf_ne _ _ hjn] at hj hgj
   exact R.sep i j g (LB.kp_here.1 hi) (LB.kp_here.1 hj) hgi hgj
 inj i g hi hg:=by
  by_cases hin : i = n
  ·subst hin
   rw [updf_same] at hg
   exact (hr g hg).1
  ·rw [updf_ne _ _ hin] at hi hg
   exact Nat.lt_of_lt_of_le (R.inj i g (LB.kp_here.1 hi) hg) hw.size
 oth:=R.oth.trans (.grown hw fun k e=>R.isC hn e)
 ext i x hi:=by
  have hin : i ≠ n:=by rintro rfl; rw [updf_same] at hi; subst hi; exact hx
  rw [updf_ne _ _ hin] at hi
  have hi2 : h i = .ext x:=by
   cases hh : h i <;> rw [hh] at hi <;> cases hi <;> rfl
  have E:=R.ext i x hi2
  have E2 : ExtOk B w0 ρ (fun i=>(h i).kp (bar n)) w i x:=⟨E.q,E.at_,E.no,E.one,fun j g hj hg=>E.apart j g (LB.kp_here.1 hj) hg,fun j k hj hk hp=>E.two j k hj hk (LB.kp_ps.1 hp)⟩
  refine E2.upd hin hx hw.size (fun k hk=>hw.block k (E.at_ k hk).2.1 fun e=>E.apart n k hn e.symm hk) fun g hg hp=>?_
  rcases (hr g hg).2 with h1 | h1
  ·exact E.apart n g hn h1 hp
  ·have:=(E.at_ g hp).2.1
   omega
end
end Go.Proofs.YtpgfhkbnngjegaaGreatDoor
