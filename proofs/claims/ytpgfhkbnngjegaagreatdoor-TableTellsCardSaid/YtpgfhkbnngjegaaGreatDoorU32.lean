/- `x[i].f = ..` where x was made behind the mark: nothing that was made since is known any more, but one slot by its shape. Condition: what the program's table says of types. -/
import Derived.Test.YtpgfhkbnngjegaaGreatDoorU18
import Derived.Test.YtpgfhkbnngjegaaGreatDoorT29
import Derived.Deep.LoopGhost
import Derived.Test.YtpgfhkbnngjegaaGreatDoorTP
import Derived.Test.YtpgfhkbnngjegaaGreatDoorWE
namespace Go.Proofs.YtpgfhkbnngjegaaGreatDoor
open Go.RowKit
set_option linter.unusedVariables false
set_option linter.unusedSimpArgs false
structure ShT (M : Nat) (w w' : World) : Prop where
 below : Below M w w'
 oth : Oth w w'
 cell : ∀ a v,w.cell? a = some v→w'.cell? a = some v∨(∃ k x y,v = .int k x∧w'.cell? a = some (.int k y))∨∃ x y,v = .string x∧w'.cell? a = some (.string y)
 unf : ∀ k,Unf w k→Unf w' k
theorem ShT.refl (M : Nat) (w : World) : ShT M w w:=⟨Below.refl _ _,Oth.refl _,fun _ _ h=>.inl h,fun _ h=>h⟩
theorem ShT.grow {M : Nat} {w w' w2 : World} (h : ShT M w w') (hM : M ≤ w'.heap.size) (hb : Below w'.heap.size w' w2) : ShT M w w2 where
 below:=h.below.trans (hb.mono hM)
 oth:=h.oth.trans (.below hb)
 cell a v hv:=by
  have key : ∀ u,w'.cell? a = some u→w2.cell? a = some u:=fun u hu=>(hb.cell (World.block_lt_of_cell? w' a hu)).trans hu
  rcases h.cell a v hv with h1 | ⟨k,x,y,h1,h2⟩ | ⟨x,y,h1,h2⟩
  ·exact .inl (key _ h1)
  ·exact .inr (.inl ⟨k,x,y,h1,key _ h2⟩)
  ·exact .inr (.inr ⟨x,y,h1,key _ h2⟩)
 unf k hk:=(h.unf k hk).grow hb
theorem ShT.set {M : Nat} {w w' : World} (h : ShT M w w') {q : Addr} (hq : M ≤ q.block) {k : IntKind} (hc : ICell w' q k) (y : Int) : ShT M w (w'.setCell q (.int k y)) where
 below:=h.below.setCell hq _
 oth:=h.oth.trans (.setCell _ _ _)
 cell a v hv:=by
  obtain ⟨z,hz⟩:=hc
  by_cases e : q = a
  ·subst e
   have hs : (w'.setCell q (.int k y)).cell? q = some (.int k y):=World.cell?_setCell_same w' q _ hz
   rcases h.cell q v hv with h1 | ⟨k',x,y',h1,h2⟩ | ⟨x,y',h1,h2⟩
   ·rw [hz] at h1
    injection h1 with h1
    exact .inr (.inl ⟨k,z,y,h1.symm,hs⟩)
   ·rw [hz] at h2
    injection h2 with h2
    injection h2 with h2 h3
    subst h2
    exact .inr (.inl ⟨k,x,y,h1,hs⟩)
   ·rw [hz] at h2
    injection h2 with h2
    cases h2
  ·rcases h.cell a v hv with h1 | ⟨k',x,y',h1,h2⟩ | ⟨x,y',h1,h2⟩
   ·exact .inl ((World.cell?_setCell_other w' q a _ e).trans h1)
   ·exact .inr (.inl ⟨k',x,y',h1,(World.cell?_setCell_other w' q a _ e).trans h2⟩)
   ·exact .inr (.inr ⟨x,y',h1,(World.cell?_setCell_other w' q a _ e).trans h2⟩)
 unf k' hk:=(h.unf k' hk).set q _
def SCell (w : World) (a : Addr) : Prop:=∃ x,w.cell? a = some (.string x)
theorem ShT.setS {M : Nat} {w w' : World} (h : ShT M w w') {q : Addr} (hq : M ≤ q.block) (hc : SCell w' q) (y : ByteArray) : ShT M w (w'.setCell q (.string y)) where
 below:=h.below.setCell hq _
 oth:=h.oth.trans (.setCell _ _ _)
 cell a v hv:=by
  obtain ⟨z,hz⟩:=hc
  by_cases e : q = a
  ·subst e
   have hs : (w'.setCell q (.string y)).cell? q = some (.string y):=World.cell?_setCell_same w' q _ hz
   rcases h.cell q v hv with h1 | ⟨k',x,y',h1,h2⟩ | ⟨x,y',h1,h2⟩
   ·rw [hz] at h1
    injection h1 with h1
    exact .inr (.inr ⟨z,y,h1.symm,hs⟩)
   ·rw [hz] at h2
    injection h2 with h2
    cases h2
   ·exact .inr (.inr ⟨x,y,h1,hs⟩)
  ·rcases h.cell a v hv with h1 | ⟨k',x,y',h1,h2⟩ | ⟨x,y',h1,h2⟩
   ·exact .inl ((World.cell?_setCell_other w' q a _ e).trans h1)
   ·exact .inr (.inl ⟨k',x,y',h1,(World.cell?_setCell_other w' q a _ e).trans h2⟩)
   ·exact .inr (.inr ⟨x,y',h1,(World.cell?_setCell_other w' q a _ e).trans h2⟩)
 unf k' hk:=(h.unf k' hk).set q _
theorem ShT.sl {M : Nat} {w w' : World} (h : ShT M w w') {a : Addr} {p : Option Addr} {n c : Nat} (hc : w.cell? a = some (.slice p n c)) : w'.cell? a = some (.slice p n c):=by
 rcases h.cell a _ hc with h1 | ⟨k,x,y,h1,_⟩ | ⟨x,y,h1,_⟩
 ·exact h1
 ·cases h1
 ·cases h1
theorem ShT.st {M : Nat} {w w' : World} (h : ShT M w w') {a : Addr} (hc : SCell w a) : SCell w' a:=by
 obtain ⟨x,hx⟩:=hc
 rcases h.cell a _ hx with h1 | ⟨k,x,y,h1,_⟩ | ⟨x,y,h1,h2⟩
 ·exact ⟨_,h1⟩
 ·cases h1
 ·exact ⟨_,h2⟩
theorem ShT.it {M : Nat} {w w' : World} (h : ShT M w w') {a : Addr} {k : IntKind} (hc : ICell w a k) : ICell w' a k:=by
 obtain ⟨x,hx⟩:=hc
 rcases h.cell a _ hx with h1 | ⟨k',x',y,h1,h2⟩ | ⟨x,y,h1,h2⟩
 ·exact ⟨_,h1⟩
 ·cases h1; exact ⟨_,h2⟩
 ·cases h1
def ColV (w : World) (M : Nat) (p : Option Addr) (n : Nat) : Prop:=∀ k,k < n→∃ ad,p = some ad∧M ≤ ad.block∧Unf w ad.block∧SCell w (ad.add (k * 4))
def ValV (w : World) (M : Nat) (p : Option Addr) (n : Nat) : Prop:=∀ k,k < n→∃ ad,p = some ad∧M ≤ ad.block∧Unf w ad.block∧ICell w ⟨(ad.add (k * 3)).block,(ad.add (k * 3)).off + 1,none⟩ .i64
def RowsV (w : World) (M : Nat) (p : Option Addr) (n : Nat) : Prop:=∀ k,k < n→∃ ad,p = some ad∧∃ v vn vc,w.cell? (ad.add k) = some (.slice v vn vc)∧vn ≤ 1000000000∧ValV w M v vn
def TabV (w : World) (M : Nat) (A : Option Addr) (n : Nat) : Prop:=∀ k,k < n→∃ ad,A = some ad∧M ≤ ad.block∧Unf w ad.block∧SCell w (ad.add (k * 3)) ∧
 (∃ p pn pc,w.cell? ⟨(ad.add (k * 3)).block,(ad.add (k * 3)).off + 1,none⟩ = some (.slice p pn pc)∧pn ≤ 1000000000∧ColV w M p pn) ∧
 ∃ q qn qc,w.cell? ⟨(ad.add (k * 3)).block,(ad.add (k * 3)).off + 2,none⟩ = some (.slice q qn qc)∧qn ≤ 1000000000∧RowsV w M q qn
set_option maxHeartbeats 1600000 in
theorem tspoil_any (M : Nat) (A : Option Addr) (n c : Nat) (w : World) (hv : TabV w M A n) (hn : n ≤ 1000000000) (hM : M ≤ w.heap.size) :
  Calls Tryz.prog 41 #[.agg #[.slice A n c]] w fun e w'=>e = .returned (.tuple #[])∧ShT M w w':=by
 go_enter Tryz.func41,Tryz.ntmps41
 have q0:=Blk.new w 50 #[.slice A n c]
 have c0:=q0.cell 0
 simp at c0
 have hB0:=(ShT.refl M w).grow hM ((Below.refl w.heap.size w).alloc (Nat.le_refl _) (.cells #[.slice A n c] 50))
 go_wp2
 go_loopw [10] (fun v wr=>∃ (k : Nat),k ≤ n∧v = .int .i64 k∧Blk wr w.heap.size 50 #[.slice A n c]∧ShT M w wr) (fun v _=>n - (intOf v).toNat)
 case atStart=>exact ⟨0,by omega,rfl,q0,hB0⟩
 case round=>
  clear q0 hB0 c0
  obtain ⟨k,hk,rfl,q,hB⟩:=hrel
  have c1:=q.cell 0
  simp at c1
  by_cases hlt : k < n
  ·obtain ⟨ad,rfl,m0,u0,s0,⟨p,pn,pc,hp,hpn,hcol⟩,qq,qn,qc,hq,hqn,hrow⟩:=hv k hlt
   have hne : w.heap.size ≠ ad.block:=by have:=u0.lt_; omega
   have hp1:=hB.sl hp
   go_wp2
   go_loopw [22] (fun v wr=>∃ (j : Nat),j ≤ pn∧v = .int .i64 j∧Blk wr w.heap.size 50 #[.slice (some ad) n c]∧ShT M w wr) (fun v _=>pn - (intOf v).toNat)
   case atStart=>exact ⟨0,by omega,rfl,q,hB⟩
   case round=>
    clear q hB c1 hp1
    obtain ⟨j,hj,rfl,q,hB⟩:=hrel
    have hp1:=hB.sl hp
    by_cases hlt1 : j < pn
    ·obtain ⟨bd,hbd,m1,u1,s1⟩:=hcol j hlt1
     have hne1 : w.heap.size ≠ bd.block:=by have:=u1.lt_; omega
     have hf : wr.frozen? (bd.add (j * 4)) = false:=Unf.frozen (by rw [addr_block]; exact hB.unf _ u1)
     have q2:=fun u=>q.far (p:=bd.add (j * 4)) (by rw [addr_block]; exact hne1) u
     have hB2:=hB.setS (q:=bd.add (j * 4)) (by rw [addr_block]; exact m1) (hB.st s1)
     obtain ⟨x1,hx1⟩:=hB.st s1
     rw [hbd] at hp1
     clear q hB
     go_wp2
     go_roundw
     case rel=>exact ⟨j + 1,by omega,by go_num,q2 _,hB2 _⟩
     case measure=>simp [intOf]; omega
    ·obtain rfl : j = pn:=by omega
     have hq1:=hB.sl hq
     go_wp2
     go_loopw [38] (fun v wr=>∃ (i : Nat),i ≤ qn∧v = .int .i64 i∧Blk wr w.heap.size 50 #[.slice (some ad) n c]∧ShT M w wr) (fun v _=>qn - (intOf v).toNat)
     case atStart=>exact ⟨0,by omega,rfl,q,hB⟩
     case round=>
      clear q hB hp1 hq1
      obtain ⟨i,hi,rfl,q,hB⟩:=hrel
      have hq1:=hB.sl hq
      by_cases hlt2 : i < qn
      ·obtain ⟨rd,hrd,v,vn,vc,hvc,hvn,hval⟩:=hrow i hlt2
       have hv1:=hB.sl hvc
       have hq2:=hq1
       rw [hrd] at hq2
       go_wp2
       go_loopw [49] (fun v' wr=>∃ (m : Nat),m ≤ vn∧v' = .int .i64 m∧Blk wr w.heap.size 50 #[.slice (some ad) n c]∧ShT M w wr) (fun v' _=>vn - (intOf v').toNat)
       case atStart=>exact ⟨0,by omega,rfl,q,hB⟩
       case round=>
        clear q hB hq1 hq2 hv1
        obtain ⟨m,hm,rfl,q,hB⟩:=hrel
        have hq1:=hB.sl hq
        have hv1:=hB.sl hvc
        by_cases hlt3 : m < vn
        ·obtain ⟨vd,hvd,m3,u3,i3⟩:=hval m hlt3
         have hne3 : w.heap.size ≠ vd.block:=by have:=u3.lt_; omega
         have hf : wr.frozen? ⟨(vd.add (m * 3)).block,(vd.add (m * 3)).off + 1,none⟩ = false:=Unf.frozen (by rw [addr_block]; exact hB.unf _ u3)
         obtain ⟨x3,hx3⟩:=hB.it i3
         have q2:=fun u=>q.far (p:=⟨(vd.add (m * 3)).block,(vd.add (m * 3)).off + 1,none⟩) (by rw [addr_block]; exact hne3) u
         have hB2:=hB.set (q:=⟨(vd.add (m * 3)).block,(vd.add (m * 3)).off + 1,none⟩) (by rw [addr_block]; exact m3) ⟨x3,hx3⟩
         rw [hrd] at hq1
         rw [hvd] at hv1
         clear q hB
         go_wp2
         go_roundw
         case rel=>exact ⟨m + 1,by omega,by go_num,q2 _,hB2 _⟩
         case measure=>simp [intOf]; omega
        ·obtain rfl : m = vn:=by omega
         go_wp2
         go_roundw
         case rel=>exact ⟨i + 1,by omega,by go_num,q,hB⟩
         case measure=>simp [intOf]; omega
      ·obtain rfl : i = qn:=by omega
       have hf : wr.frozen? (ad.add (k * 3)) = false:=Unf.frozen (by rw [addr_block]; exact hB.unf _ u0)
       have q2:=fun u=>q.far (p:=ad.add (k * 3)) (by rw [addr_block]; exact hne) u
       have hB2:=hB.setS (q:=ad.add (k * 3)) (by rw [addr_block]; exact m0) (hB.st s0)
       obtain ⟨x0,hx0⟩:=hB.st s0
       clear q hB
       go_wp2
       go_roundw
       case rel=>exact ⟨k + 1,by omega,by go_num,q2 _,hB2 _⟩
       case measure=>simp [intOf]; omega
  ·obtain rfl : k = n:=by omega
   go_wp2
   exact bodyPost_end (v:=.tuple #[]) (by simp [results,Tryz.f41]) rfl ⟨rfl,hB⟩
theorem addr_off2 (ad : Addr) (i o : Nat) (ho : 0 < o) : (⟨(ad.add i).block,(ad.add i).off + o,none⟩ : Addr) = ad.add (i + o):=by
 unfold Addr.add
 by_cases h0 : i = 0
 ·subst h0; simp; intro e; omega
 ·rw [if_neg h0,if_neg (by omega)]; simp only [Nat.add_assoc]
theorem flat_at3 {α : Type} {m : Nat} : ∀ {css : List (List α)},(∀ x ∈ css,x.length = m)→∀ {k : Nat} {vs : List α},css[k]? = some vs→∀ (i : Nat) (v : α),vs[i]? = some v→css.flatten[k * m + i]? = some v
 | [],_,k,vs,h,_,_,_=>by simp at h
 | x :: css,hm,0,vs,h,i,v,hi=>by
  simp only [List.getElem?_cons_zero,Option.some.injEq] at h
  subst h
  have:=(List.getElem?_eq_some_iff.1 hi).1
  rw [List.flatten_cons,Nat.zero_mul,Nat.zero_add,List.getElem?_append_left this]
  exact hi
 | x :: css,hm,k + 1,vs,h,i,v,hi=>by
  have h1:=hm x (by simp)
  have:=flat_at3 (css:=css) (fun y hy=>hm y (by simp [hy])) (k:=k) (by simpa using h) i v hi
  rw [List.flatten_cons,List.getElem?_append_right (by rw [h1,Nat.succ_mul]; omega),h1,show (k + 1) * m + i - m = k * m + i by rw [Nat.succ_mul]; omega]
  exact this
theorem sl_open {C : Cx} {els : List (List TV)} {u : Value} (h : Dn C (.sl true els) u) (m : Nat) (hm : ∀ ts ∈ els,ts.length = m) : ∃ A c,u = .slice A els.length c ∧
  ∀ (k : Nat) (ts : List TV),els[k]? = some ts→∃ ad vs,A = some ad∧C.B ≤ ad.block∧Unf C.w ad.block∧DnL C ts vs∧∀ (i : Nat) (v : Value),vs[i]? = some v→C.w.cell? (ad.add (k * m + i)) = some v:=by
 simp only [Dn] at h
 obtain ⟨A,c,css,sz,rfl,h2,h3,h4,h5,h6,h7⟩:=h
 refine ⟨A,c,rfl,fun k ts hk=>?_⟩
 have hne : els ≠ []:=fun e=>by rw [e] at hk; simp at hk
 cases A with
 | none=>exact absurd (h4 rfl) hne
 | some ad=>
  obtain ⟨h8,h9⟩:=h7 ad rfl
  obtain ⟨_,_,h10⟩:=h8 hne
  obtain ⟨vs,h11,h12⟩:=h6.at_ k ts hk
  have hall : ∀ x ∈ css,x.length = m:=fun x hx=>by
   obtain ⟨j,hj⟩:=List.getElem?_of_mem hx
   have hjl : j < els.length:=by rw [← h6.len]; exact (List.getElem?_eq_some_iff.1 hj).1
   obtain ⟨vs',g1,g2⟩:=h6.at_ j els[j] (List.getElem?_eq_getElem hjl)
   rw [hj] at g1
   cases g1
   rw [g2.len]
   exact hm _ (List.getElem_mem _)
  exact ⟨ad,vs,rfl,(h10 trivial).1,(h10 trivial).2,h12,fun i v hv=>h9 _ _ (flat_at3 hall h11 i v hv)⟩
theorem vals_V {C : Cx} {r : List Val} {u : Value} (h : Dn C (.sl true (r.map vlC)) u) : ∃ p c,u = .slice p r.length c∧ValV C.w C.B p r.length:=by
 obtain ⟨A,c,rfl,h1⟩:=sl_open h 3 fun ts ht=>by obtain ⟨v,_,rfl⟩:=List.mem_map.1 ht; rfl
 rw [List.length_map]
 refine ⟨A,c,rfl,fun k hk=>?_⟩
 obtain ⟨ad,vs,rfl,m0,u0,hd,hc⟩:=h1 k (vlC r[k]) (by simp [hk])
 simp only [vlC,DnL,Dn] at hd
 obtain ⟨_,_,rfl,rfl,_,_,rfl,rfl,_,_,rfl,rfl,rfl⟩:=hd
 refine ⟨ad,rfl,m0,u0,?_⟩
 rw [addr_off2 ad (k * 3) 1 (by omega)]
 exact ⟨_,hc 1 _ rfl⟩
theorem rows_V {C : Cx} {l : List (List Val)} (hb : ∀ r ∈ l,r.length ≤ 1000000000) {u : Value} (h : Dn C (.sl true (l.map (rwC true))) u) : ∃ p c,u = .slice p l.length c∧RowsV C.w C.B p l.length:=by
 obtain ⟨A,c,rfl,h1⟩:=sl_open h 1 fun ts ht=>by obtain ⟨v,_,rfl⟩:=List.mem_map.1 ht; rfl
 rw [List.length_map]
 refine ⟨A,c,rfl,fun k hk=>?_⟩
 obtain ⟨ad,vs,rfl,m0,u0,hd,hc⟩:=h1 k (rwC true l[k]) (by simp [hk])
 simp only [rwC,DnL] at hd
 obtain ⟨u1,_,rfl,hd,rfl⟩:=hd
 obtain ⟨p,c2,rfl,hv⟩:=vals_V hd
 have:=hc 0 _ rfl
 rw [Nat.mul_one,Nat.add_zero] at this
 exact ⟨ad,rfl,p,_,c2,this,hb _ (List.getElem_mem _),hv⟩
theorem cols_V {C : Cx} {l : List Dfn} {u : Value} (h : Dn C (.sl true (l.map dfC)) u) : ∃ p c,u = .slice p l.length c∧ColV C.w C.B p l.length:=by
 obtain ⟨A,c,rfl,h1⟩:=sl_open h 4 fun ts ht=>by obtain ⟨v,_,rfl⟩:=List.mem_map.1 ht; rfl
 rw [List.length_map]
 refine ⟨A,c,rfl,fun k hk=>?_⟩
 obtain ⟨ad,vs,rfl,m0,u0,hd,hc⟩:=h1 k (dfC l[k]) (by simp [hk])
 simp only [dfC,DnL,Dn] at hd
 obtain ⟨_,_,rfl,rfl,_,_,rfl,rfl,_,_,rfl,rfl,_,_,rfl,rfl,rfl⟩:=hd
 have:=hc 0 _ rfl
 exact ⟨ad,rfl,m0,u0,_,this⟩
theorem tabs_V {C : Cx} {s : List Tbl} (hc : ∀ t ∈ s,t.c.length ≤ 1000000000∧t.r.length ≤ 1000000000∧∀ r ∈ t.r,r.length ≤ 1000000000) {u : Value} (h : Dn C (.sl true (s.map (tbC true true true))) u) : ∃ p c,u = .slice p s.length c∧TabV C.w C.B p s.length:=by
 obtain ⟨A,c,rfl,h1⟩:=sl_open h 3 fun ts ht=>by obtain ⟨v,_,rfl⟩:=List.mem_map.1 ht; rfl
 rw [List.length_map]
 refine ⟨A,c,rfl,fun k hk=>?_⟩
 obtain ⟨ad,vs,rfl,m0,u0,hd,hcell⟩:=h1 k (tbC true true true s[k]) (by simp [hk])
 simp only [tbC,DnL] at hd
 obtain ⟨u1,_,rfl,hd1,u2,_,rfl,hd2,u3,_,rfl,hd3,rfl⟩:=hd
 simp only [Dn] at hd1
 subst hd1
 obtain ⟨b1,b2,b3⟩:=hc _ (List.getElem_mem hk)
 obtain ⟨p,pc,rfl,hp⟩:=cols_V hd2
 obtain ⟨q,qc,rfl,hq⟩:=rows_V b3 hd3
 refine ⟨ad,rfl,m0,u0,⟨_,hcell 0 _ rfl⟩,⟨p,_,pc,?_,b1,hp⟩,q,_,qc,?_,b2,hq⟩
 ·rw [addr_off2 ad (k * 3) 1 (by omega)]; exact hcell 1 _ rfl
 ·rw [addr_off2 ad (k * 3) 2 (by omega)]; exact hcell 2 _ rfl
theorem tspoil_M {s : List Tbl} (hn : s.length ≤ 1000000000) (hc : ∀ t ∈ s,t.c.length ≤ 1000000000∧t.r.length ≤ 1000000000∧∀ r ∈ t.r,r.length ≤ 1000000000) : SpM Tryz.prog 41 [stT true true true true s]:=⟨by kernel_rfl,fun C vals hB hh=>by
 simp only [stT,DnL] at hh
 obtain ⟨u,us,rfl,hd,rfl⟩:=hh
 rw [Dn] at hd
 obtain ⟨vs,rfl,hd⟩:=hd
 simp only [DnL] at hd
 obtain ⟨u1,us1,rfl,hd,rfl⟩:=hd
 obtain ⟨p,c,rfl,hv⟩:=tabs_V hc hd
 exact (tspoil_any C.B p _ c C.w hv hn hB).mono fun e w' hh=>⟨hh.1,⟨hh.2.below,hh.2.oth⟩⟩⟩
end Go.Proofs.YtpgfhkbnngjegaaGreatDoor

namespace Go.Proofs.YtpgfhkbnngjegaaGreatDoor
open Go.RowKit
set_option linter.unusedVariables false
set_option linter.unusedSimpArgs false
theorem bl_cells {M : Nat} {w w' : World} (hs : Shp M w w') {ad : Addr} : ∀ (cs : List Value),(∀ (j : Nat) (x : Value),cs[j]? = some x→w.cell? (ad.add j) = some x)→∃ cs2 : List Value,cs2.length = cs.length∧(∀ (j : Nat) (x : Value),cs2[j]? = some x→w'.cell? (ad.add j) = some x)∧∀ (j : Nat) (x : Value),cs[j]? = some x→cs2[j]? = some x∨∃ k y z,x = .int k y∧cs2[j]? = some (.int k z):=by
 intro cs h
 refine ⟨(List.range cs.length).map fun j=>(w'.cell? (ad.add j)).getD .nilFunc,by simp,fun j x hx=>?_,fun j x hx=>?_⟩
 ·rw [List.getElem?_map] at hx
  cases hr : (List.range cs.length)[j]? with
  | none=>rw [hr] at hx; cases hx
  | some k=>
   obtain ⟨hk,rfl⟩:=List.getElem?_eq_some_iff.1 hr
   rw [hr] at hx
   simp only [Option.map_some,Option.some.injEq,List.getElem_range] at hx
   have hj : j < cs.length:=by simpa using hk
   rcases hs.cell _ _ (h j cs[j] (List.getElem?_eq_getElem hj)) with h4 | ⟨k,a,b,h4,h5⟩
   ·rw [h4] at hx; rw [h4,← hx]; rfl
   ·rw [h5] at hx; rw [h5,← hx]; rfl
 ·have hj:=(List.getElem?_eq_some_iff.1 hx).1
  rw [List.getElem?_map,List.getElem?_range hj]
  rcases hs.cell _ _ (h j x hx) with h4 | ⟨k,a,b,h4,h5⟩
  ·left; simp [h4]
  ·right; exact ⟨k,a,b,h4,by simp [h5]⟩
theorem Dn.sl_e {C : Cx} {b : Bool} {els : List (List TV)} {u : Value} (h : Dn C (.sl b els) u) : ∃ (A : Option Addr) (c : Nat) (css : List (List Value)) (sz : Nat),u = .slice A els.length c∧els.length ≤ c∧c ≤ maxLen∧(A = none→els = [])∧(∀ x ∈ css,x.length = sz)∧DnLL C els css ∧
  ∀ ad,A = some ad→(els ≠ []→C.S ad.block∧ad.block < C.w.heap.size∧(b = true→C.B ≤ ad.block∧Unf C.w ad.block))∧∀ (j : Nat) (x : Value),css.flatten[j]? = some x→C.w.cell? (ad.add j) = some x:=by
 simp only [Dn] at h; exact h
theorem Dn.sl_m {C : Cx} {b : Bool} {els : List (List TV)} {A : Option Addr} {c : Nat} {css : List (List Value)} {sz : Nat} (h1 : els.length ≤ c) (h2 : c ≤ maxLen) (h3 : A = none→els = []) (h4 : ∀ x ∈ css,x.length = sz) (h5 : DnLL C els css)
  (h6 : ∀ ad,A = some ad→(els ≠ []→C.S ad.block∧ad.block < C.w.heap.size∧(b = true→C.B ≤ ad.block∧Unf C.w ad.block))∧∀ (j : Nat) (x : Value),css.flatten[j]? = some x→C.w.cell? (ad.add j) = some x) : Dn C (.sl b els) (.slice A els.length c):=by
 simp only [Dn]; exact ⟨A,c,css,sz,rfl,h1,h2,h3,h4,h5,h6⟩
theorem bl_sl {C C' : Cx} (hs : Shp C.B C.w C'.w) (hB : C'.B = C.B) (hS : ∀ k,C'.S k) {ad : Addr} (h : C.S ad.block∧ad.block < C.w.heap.size∧(true = true→C.B ≤ ad.block∧Unf C.w ad.block)) : C'.S ad.block∧ad.block < C'.w.heap.size∧(true = true→C'.B ≤ ad.block∧Unf C'.w ad.block):=
 ⟨hS _,Nat.lt_of_lt_of_le h.2.1 hs.below.size,fun _=>⟨by rw [hB]; exact (h.2.2 rfl).1,hs.unf _ (h.2.2 rfl).2⟩⟩
theorem bl_vrow {C C' : Cx} : ∀ {l : List Val} {css : List (List Value)} {cs2 : List Value},DnLL C (l.map vlC) css→cs2.length = css.flatten.length→(∀ (j : Nat) (x : Value),css.flatten[j]? = some x→cs2[j]? = some x∨∃ k y z,x = .int k y∧cs2[j]? = some (.int k z)) →
  ∃ (l2 : List Val) (css2 : List (List Value)),css2.flatten = cs2∧(∀ x ∈ css2,x.length = 3)∧l2.length = l.length∧DnLL C' (l2.map vlC) css2
 | [],css,cs2,h,hl,hc=>by
  simp only [List.map_nil,DnLL] at h
  subst h
  obtain rfl : cs2 = []:=List.eq_nil_of_length_eq_zero (by simpa using hl)
  exact ⟨[],[],rfl,by simp,rfl,by simp [DnLL]⟩
 | v :: l,css,cs2,h,hl,hc=>by
  simp only [List.map_cons,DnLL] at h
  obtain ⟨u,us,rfl,h1,h2⟩:=h
  simp only [vlC,DnL] at h1
  obtain ⟨u1,us1,rfl,h11,u2,us2,rfl,h12,u3,us3,rfl,h13,rfl⟩:=h1
  simp only [Dn] at h11 h12 h13
  subst h11 h12 h13
  match cs2,hl,hc with
  | x1 :: x2 :: x3 :: cs2,hl,hc=>
   obtain ⟨l2,css2,g1,g2,g3,g5⟩:=bl_vrow (C':=C') (cs2:=cs2) h2 (by simp only [List.flatten_cons,List.length_append,List.length_cons,List.length_nil] at hl; omega) (fun j x hx=>by have:=hc (j + 3) x (by simpa using hx); simpa using this)
   have q1 : ∃ a,x1 = .int .i64 a:=by
    rcases hc 0 _ rfl with h | ⟨k,y,z,h3,h4⟩
    ·exact ⟨v.k,by simpa using h⟩
    ·injection h3 with h3; subst h3; exact ⟨z,by simpa using h4⟩
   have q2 : ∃ a,x2 = .int .i64 a:=by
    rcases hc 1 _ rfl with h | ⟨k,y,z,h3,h4⟩
    ·exact ⟨v.n,by simpa using h⟩
    ·injection h3 with h3; subst h3; exact ⟨z,by simpa using h4⟩
   have q3 : x3 = .string v.t:=by
    rcases hc 2 _ rfl with h | ⟨k,y,z,h3,h4⟩
    ·simpa using h
    ·cases h3
   obtain ⟨a1,rfl⟩:=q1
   obtain ⟨a2,rfl⟩:=q2
   subst q3
   refine ⟨⟨a1,a2,v.t⟩ :: l2,[.int .i64 a1,.int .i64 a2,.string v.t] :: css2,by simp [g1],?_,by simp [g3],?_⟩
   ·intro x hx
    rcases List.mem_cons.1 hx with rfl | hx
    ·rfl
    ·exact g2 x hx
   ·simp only [List.map_cons,DnLL]
    refine ⟨_,_,rfl,?_,g5⟩
    simp only [vlC,DnL]
    exact ⟨_,_,rfl,by simp only [Dn],_,_,rfl,by simp only [Dn],_,_,rfl,by simp only [Dn],rfl⟩
  | [],hl,_=>simp at hl
  | [_],hl,_=>simp at hl
  | [_,_],hl,_=>simp at hl
theorem bl_vals {C C' : Cx} (hs : Shp C.B C.w C'.w) (hB : C'.B = C.B) (hS : ∀ k,C'.S k) {l : List Val} {u : Value} (h : Dn C (.sl true (l.map vlC)) u) : ∃ l2 : List Val,l2.length = l.length∧Dn C' (.sl true (l2.map vlC)) u:=by
 obtain ⟨A,c,css,sz,rfl,h2,h3,h4,h5,h6,h7⟩:=h.sl_e
 cases A with
 | none=>
  have:=h4 rfl
  rw [List.map_eq_nil_iff] at this
  subst this
  exact ⟨[],rfl,Dn.sl_m (css:=[]) (sz:=0) h2 h3 (fun _=>rfl) (by simp) (by simp [DnLL]) (fun ad ha=>by cases ha)⟩
 | some ad=>
  obtain ⟨h8,h9⟩:=h7 ad rfl
  obtain ⟨cs2,g1,g2,g3⟩:=bl_cells hs (ad:=ad) css.flatten h9
  obtain ⟨l2,css2,k1,k2,k3,k5⟩:=bl_vrow (C':=C') h6 g1 g3
  refine ⟨l2,k3,?_⟩
  have e1 : (l.map vlC).length = (l2.map vlC).length:=by simp [k3]
  rw [e1] at h2 ⊢
  refine Dn.sl_m (sz:=3) h2 h3 (fun h=>by cases h) k2 k5 (fun ad' ha=>?_)
  injection ha with ha
  subst ha
  refine ⟨fun hne=>bl_sl hs hB hS (h8 fun h0=>hne ?_),fun j x hx=>g2 j x (by rw [k1] at hx; exact hx)⟩
  rw [List.map_eq_nil_iff] at h0 ⊢
  subst h0
  exact List.eq_nil_of_length_eq_zero k3
theorem fndF_at {s : List Tbl} {x : ByteArray} {j0 : Nat} (hlt : ∀ k,k < j0→ltS (nmAt s k) x = true) (hge : ∀ k,j0 ≤ k→k < s.length→ltS (nmAt s k) x = false) : ∀ (f i j : Nat),i ≤ j0→j0 ≤ j→j ≤ s.length→j - i ≤ f→fndF s x f i j = j0
 | 0,i,j,h1,h2,_,h3=>by unfold fndF; omega
 | f + 1,i,j,h1,h2,h4,h3=>by
  unfold fndF
  by_cases hij : i < j
  ·rw [if_pos hij]
   by_cases hh : (i + j) / 2 < j0
   ·rw [if_pos (hlt _ hh)]
    exact fndF_at hlt hge f _ _ (by omega) h2 h4 (by omega)
   ·rw [if_neg (by rw [hge _ (by omega) (by omega)]; simp)]
    exact fndF_at hlt hge f _ _ h1 (by omega) (by omega) (by omega)
  ·rw [if_neg hij]; omega
theorem fnd_at {s : List Tbl} (h : StoQ s) {j : Nat} {t : Tbl} (ht : s[j]? = some t) : fndI s t.n = j:=by
 obtain ⟨hj,rfl⟩:=List.getElem?_eq_some_iff.1 ht
 have hpw:=List.pairwise_iff_getElem.1 h.pw
 have hnm : ∀ k (hk : k < s.length),nmAt s k = s[k].n:=fun k hk=>nmAt_of (List.getElem?_eq_getElem hk)
 refine fndF_at (fun k hk=>?_) (fun k hk hkl=>?_) _ _ _ (Nat.zero_le _) (by omega) (Nat.le_refl _) (Nat.le_refl _)
 ·rw [hnm k (by omega)]; exact hpw k j (by omega) hj hk
 ·rw [hnm k hkl]
  rcases Nat.lt_or_eq_of_le hk with h1 | h1
  ·exact bl_asym _ _ (hpw j k hj hkl h1)
  ·subst h1
   cases hh : ltS s[j].n s[j].n with
   | false=>rfl
   | true=>exact absurd rfl (nm_ne (t:=s[j]) (u:=s[j]) hh)
theorem fnd_in {s : List Tbl} (h : StoQ s) {j : Nat} {t : Tbl} (ht : s[j]? = some t) : fndB s t.n = true:=by
 have h1:=fnd_at h ht
 unfold fndB
 rw [h1,nmAt_of ht]
 have:=(List.getElem?_eq_some_iff.1 ht).1
 simp [this,bsEq]
theorem tell_cases (s : List Tbl) (n : ByteArray) (hI : ∀ t ∈ s,t.In) : (stoB s = false∧fndO s n = none)∨(stoB s = true∧fndO s n = none∧atI s n = -1)∨∃ t,stoB s = true∧fndO s n = some t∧s[fndI s n]? = some t∧atI s n = fndI s n∧TabQ t:=by
 cases hR : stoB s with
 | false=>exact .inl ⟨rfl,by simp [fndO,hR]⟩
 | true=>
  have hQ:=sto_G hR hI
  rcases fnd_cases s n with ⟨_,h2⟩ | ⟨t,_,_,h3,h4,h5,h6⟩
  ·refine .inr (.inl ⟨rfl,h2,ixP_f (k:=s.length) (fun j x _ hx=>?_) (Nat.le_refl _)⟩)
   cases hb : bsEq x.n n with
   | false=>rfl
   | true=>
    have e:=bsEq_e.1 hb
    subst e
    have h7:=fnd_at hQ hx
    simp [fndO,hR,fnd_in hQ hx,h7,hx] at h2
  ·refine .inr (.inr ⟨t,rfl,h6,h4,ixP_t (k:=fndI s n) (fun j x hj hx=>?_) h4 (bsEq_e.2 h5),hQ.t t (List.mem_of_getElem? h4)⟩)
   cases hb : bsEq x.n n with
   | false=>rfl
   | true=>
    have e:=bsEq_e.1 hb
    have h7:=fnd_at hQ hx
    rw [e] at h7
    omega
def wntR (t : Tbl) (v : Val) (j : Nat) : List Val:=(t.r.take j).foldl (fun a r=>if eqV (vAt r (keyI t.c)) v = true then r else a) []
theorem wntR_t {t : Tbl} {v : Val} {j : Nat} {r : List Val} (h : t.r[j]? = some r) (he : eqV (vAt r (keyI t.c)) v = true) : wntR t v (j + 1) = r:=by
 obtain ⟨hj,rfl⟩:=List.getElem?_eq_some_iff.1 h
 unfold wntR
 rw [List.take_succ_eq_append_getElem hj,List.foldl_append]
 simp [he]
theorem wntR_f {t : Tbl} {v : Val} {j : Nat} {r : List Val} (h : t.r[j]? = some r) (he : eqV (vAt r (keyI t.c)) v = false) : wntR t v (j + 1) = wntR t v j:=by
 obtain ⟨hj,rfl⟩:=List.getElem?_eq_some_iff.1 h
 unfold wntR
 rw [List.take_succ_eq_append_getElem hj,List.foldl_append]
 simp [he]
theorem wntR_s {t : Tbl} {v : Val} {j : Nat} {r : List Val} (h : t.r[j]? = some r) : wntR t v (j + 1) = if eqV (vAt r (keyI t.c)) v = true then r else wntR t v j:=by
 cases he : eqV (vAt r (keyI t.c)) v with
 | true=>rw [wntR_t h he]; rfl
 | false=>rw [wntR_f h he]; rfl
theorem wnt_find {key : Int} {v : Val} : ∀ {l : List (List Val)} (a : List Val),Rise key l→l.foldl (fun a r=>if eqV (vAt r key) v = true then r else a) a = (l.find? fun r=>eqV (vAt r key) v).getD a
 | [],a,_=>rfl
 | r :: l,a,h=>by
  rw [List.foldl_cons,List.find?_cons]
  have hp:=List.pairwise_cons.1 h
  cases he : eqV (vAt r key) v with
  | false=>simpa using wnt_find (v:=v) a hp.2
  | true=>
   have e:=eqV_t he
   have hno : l.find? (fun r=>eqV (vAt r key) v) = none:=by
    rw [List.find?_eq_none]
    intro x hx h2
    have:=ltV_iff.1 (hp.1 x hx)
    rw [eqV_t h2,e] at this
    exact cmpV_irr _ this
   have:=wnt_find (v:=v) r hp.2
   simp only [if_true,Option.getD_some]
   rw [this,hno]
   rfl
theorem wntR_e {s : List Tbl} {n : ByteArray} {t : Tbl} (ho : fndO s n = some t) (hQ : TabQ t) {v : Val} {j : Nat} (h1 : j ≤ t.r.length) (h2 : (t.r.length : Int) ≤ j) : wntR t v j = (getO s n v).getD []:=by
 have e : j = t.r.length:=by omega
 subst e
 unfold wntR getO fndT
 rw [List.take_length,ho]
 exact wnt_find [] hQ.rise
theorem getO_in {s : List Tbl} {n : ByteArray} {t : Tbl} (ho : fndO s n = some t) (v : Val) {r : List Val} (h : getO s n v = some r) : r ∈ t.r:=by
 unfold getO fndT at h
 rw [ho] at h
 exact List.mem_of_find?_eq_some h
theorem getO_pos {s : List Tbl} {n : ByteArray} {t : Tbl} (ho : fndO s n = some t) (hQ : TabQ t) (v : Val) : (getO s n v).isSome = decide (0 < ((getO s n v).getD []).length):=by
 cases h : getO s n v with
 | none=>rfl
 | some r=>
  have h1:=key_at hQ.F (getO_in ho v h)
  simp
  omega
theorem getO_none {s : List Tbl} {n : ByteArray} (ho : fndO s n = none) (v : Val) : getO s n v = none:=by
 unfold getO fndT
 rw [ho]
 rfl
theorem tell_get {s : List Tbl} {n : ByteArray} {t : Tbl} (ho : fndO s n = some t) (hQ : TabQ t) (v : Val) : decide (0 < ((wntR t v t.r.length).length : Int)) = (getO s n v).isSome∧wntR t v t.r.length = (getO s n v).getD []∧(wntR t v t.r.length).length ≤ 100000:=by
 have h1:=wntR_e ho hQ (v:=v) (Nat.le_refl _) (Int.le_refl _)
 refine ⟨?_,h1,?_⟩
 ·rw [h1,getO_pos ho hQ v]
  exact decide_eq_decide.2 (by omega)
 ·rw [h1]
  cases h : getO s n v with
  | none=>simp
  | some r=>exact (hQ.I.r r (getO_in ho v h)).1
theorem smR_self (r : List Val) : smL (smL vlE) [r] [r] = true:=(smL_iff (fun l m=>smL_iff vlE_iff (l:=l) (m:=m))).2 rfl
theorem tbE_self (t : Tbl) : tbE t t = true:=(tbE_iff t t).2 rfl
end Go.Proofs.YtpgfhkbnngjegaaGreatDoor

namespace Go.Proofs.YtpgfhkbnngjegaaGreatDoor
open Go.RowKit
set_option linter.unusedVariables false
set_option linter.unusedSimpArgs false
section
variable {P : Program} {B : Nat} {w0 : World} {gh : List Value} {ops : Array Oper}
theorem flat_at4 {α : Type} {m : Nat} : ∀ {css : List (List α)},(∀ x ∈ css,x.length = m)→∀ {k : Nat} {vs : List α},css[k]? = some vs→∀ (i : Nat) (v : α),vs[i]? = some v→css.flatten[k * m + i]? = some v
 | [],_,k,vs,h,_,_,_=>by simp at h
 | x :: css,hm,0,vs,h,i,v,hi=>by
  simp only [List.getElem?_cons_zero,Option.some.injEq] at h
  subst h
  have:=(List.getElem?_eq_some_iff.1 hi).1
  rw [List.flatten_cons,Nat.zero_mul,Nat.zero_add,List.getElem?_append_left this]
  exact hi
 | x :: css,hm,k + 1,vs,h,i,v,hi=>by
  have h1:=hm x (by simp)
  have:=flat_at4 (css:=css) (fun y hy=>hm y (by simp [hy])) (k:=k) (by simpa using h) i v hi
  rw [List.flatten_cons,List.getElem?_append_right (by rw [h1,Nat.succ_mul]; omega),h1,show (k + 1) * m + i - m = k * m + i by rw [Nat.succ_mul]; omega]
  exact this
theorem TL.overF {Q : Exit→St→Prop} {σ : St} {o6 o7 o8 : Oper} {t tf u : TypeId} {x y z : Operand} {s6 s7 f fo ft : Nat} {els : List (List TV)} {c : List TV} {j : Nat} {kk : IntKind} {a0 m : Int} {ti te tt tg tu : TI}
  (h6 : o6.guard = none∧o6.op = .indexAddr t x y∧o6.dst = some s6) (h7 : o7.guard = none∧o7.op = .fieldAddr tf (.tmp s6) f∧o7.dst = some s7) (h8 : o8.guard = none∧o8.op = .store u (.tmp s7) z∧o8.dst = none) (ht : tiOf P t = some ti) (hk : ti.k = 3) (he : tiOf P ti.el = some te)
  (htf : tiOf P tf = some tt) (hkf : tt.k = 1) (hff : tt.fs[f]? = some (fo,ft)) (hft : tiOf P ft = some tg) (hgn : tg.n ≠ 0) (hu : tiOf P u = some tu) (hun : tu.n = 1)
  (hx : tev σ.s x = .sl true els) (hy : tev σ.s y = .v (.int .i64 (j : Int))) (hj : els[j]? = some c) (hcl : c.length = te.n) (hcf : c[fo]? = some (.v (.int kk a0))) (hz : ∀ v v',tev ((σ.s.set s6 v).set s7 v') z = .v (.int kk m)) (hs : s6 < σ.s.length) (hs7 : s7 < σ.s.length)
  (h : ∀ ρ a w w' p p',RelS B w0 gh ρ σ a w→Shp B w w'→liftQ B w0 gh Q .normal ((a.put (some s6) p).put (some s7) p') w') : TL P B w0 gh ops [o6,o7,o8] σ Q:=fun ρ a w hr=>by
 obtain ⟨hg6,ho6,hd6⟩:=h6
 obtain ⟨hg7,ho7,hd7⟩:=h7
 obtain ⟨hg8,ho8,hd8⟩:=h8
 have h1:=tev_dn hr.slots x
 have h2:=tev_dn hr.slots y
 rw [hx] at h1
 rw [hy] at h2
 simp only [Dn] at h1 h2
 obtain ⟨A,cap,css,sz,r1,r2,r3,r4,r5,r6,r7⟩:=h1
 have hjl:=(List.getElem?_eq_some_iff.1 hj).1
 have hne : els ≠ []:=by intro h0; rw [h0] at hjl; simp at hjl
 rcases A with _ | ad
 ·exact absurd (r4 rfl) hne
 obtain ⟨r8,r9⟩:=r7 ad rfl
 obtain ⟨r10,r11,r12⟩:=r8 hne
 obtain ⟨r13,r14⟩:=r12 trivial
 obtain ⟨vs,g1,g2⟩:=r6.at_ j c hj
 have hsz : sz = te.n:=by rw [← r5 vs (List.mem_of_getElem? g1),g2.len,hcl]
 obtain ⟨v0,g3,g4⟩:=g2.at_ fo _ hcf
 simp only [Dn] at g4
 subst g4
 have hcell : w.cell? (ad.add (j * te.n + fo)) = some (.int kk a0):=r9 _ _ (by rw [← hsz]; exact flat_at4 r5 g1 fo _ g3)
 have hfr : w.frozen? (ad.add (j * te.n + fo)) = false:=Unf.frozen (by rw [addr_block]; exact r14)
 have e6 : (execOp a.eval o6).run P w = .ok (.value (.pointer (some (ad.add (j * te.n))))) w:=by
  simp [execOp,ho6,h2,r1,Instr.indexAt,asInt_run,run_underlying (ti_slice ht hk),ti_size he,hjl]
 refine wpList_plain hg6 fun K hK=>?_
 unfold Oper.wp
 rw [e6]
 refine hK _ _ ?_
 have hs6:=put_dn (dst:=some s6) (t:=.v (.pointer (some (ad.add (j * te.n))))) (u:=.pointer (some (ad.add (j * te.n)))) hr.slots (by simp [Dn])
 have h4:=tev_dn hs6 (.tmp s6)
 simp only at h4
 rw [show tev (σ.s.set s6 (.v (.pointer (some (ad.add (j * te.n)))))) (.tmp s6) = .v (.pointer (some (ad.add (j * te.n)))) by simp [tev,hs]] at h4
 simp only [Dn] at h4
 rw [hd6]
 have e7 : (execOp (a.put (some s6) (.pointer (some (ad.add (j * te.n))))).eval o7).run P w = .ok (.value (.pointer (some (ad.add (j * te.n + fo))))) w:=by
  simp [execOp,ho7,h4,fieldAt_run htf hkf hff hft hgn,addr_add]
 refine wpList_plain hg7 fun K hK=>?_
 unfold Oper.wp
 rw [e7]
 refine hK _ _ ?_
 have hs7':=put_dn (dst:=some s7) (t:=.v (.pointer (some (ad.add (j * te.n + fo))))) (u:=.pointer (some (ad.add (j * te.n + fo)))) hs6 (by simp [Dn])
 have h3:=tev_dn hs7' z
 have h5:=tev_dn hs7' (.tmp s7)
 simp only at h3 h5
 rw [hz] at h3
 rw [show tev ((σ.s.set s6 (.v (.pointer (some (ad.add (j * te.n)))))).set s7 (.v (.pointer (some (ad.add (j * te.n + fo)))))) (.tmp s7) = .v (.pointer (some (ad.add (j * te.n + fo)))) by simp [tev,hs7]] at h5
 simp only [Dn] at h3 h5
 rw [hd7]
 refine wpList_plain hg8 fun K hK=>?_
 unfold Oper.wp
 have hz0 : (ad.add (j * te.n + fo)).add 0 = ad.add (j * te.n + fo):=by simp [Addr.add]
 have e8 : (execOp ((a.put (some s6) (.pointer (some (ad.add (j * te.n))))).put (some s7) (.pointer (some (ad.add (j * te.n + fo))))).eval o8).run P w = .ok .skip (w.setCell (ad.add (j * te.n + fo)) (.int kk m)):=by
  have e9 : (storeVar u (ad.add (j * te.n + fo)) (.int kk m)).run P w = .ok () (w.setCell (ad.add (j * te.n + fo)) (.int kk m)):=by
   simp [storeVar,ti_size hu,hun,Value.cells,storeCells,hz0,run_store P w (ad.add (j * te.n + fo)) (.int kk m) .plain rfl,hcell,hfr]
  simp [execOp,ho8,h5,h3,Instr.storeAt,Instr.sureAddr,e9]
 rw [e8]
 refine hK _ _ ?_
 rw [hd8]
 exact h ρ a w _ _ _ hr ((Shp.refl B w).set (by rw [addr_block]; exact r13) ⟨_,hcell⟩ m)
end
section
variable {P : Program} {B : Nat} {w0 : World} {T : Tab} {n : Nat} {e : Env} {h : List XLB} {gs : Frames} {K : XQ} {c : Code}
theorem XT.overF (O : TabOk P T) {id : Nat} {a : Code} {ops : Array Oper} (mm : Nat) {o6 o7 o8 : Oper} {t tf u : TypeId} {x y z : Operand} {s6 s7 f fo ft : Nat} {ti te tt tg tu : TI} {Y : Type} (d : Nat) (v : Y→XV) (r : Y→Prop)
  (hops : ops.toList.drop mm = [o6,o7,o8]) (h6 : o6.guard = none∧o6.op = .indexAddr t x y∧o6.dst = some s6) (h7 : o7.guard = none∧o7.op = .fieldAddr tf (.tmp s6) f∧o7.dst = some s7) (h8 : o8.guard = none∧o8.op = .store u (.tmp s7) z∧o8.dst = none)
  (ht : tiOf P t = some ti) (hk : ti.k = 3) (he : tiOf P ti.el = some te) (htf : tiOf P tf = some tt) (hkf : tt.k = 1) (hff : tt.fs[f]? = some (fo,ft)) (hft : tiOf P ft = some tg) (hgn : Nat.beq tg.n 0 = false) (hu : tiOf P u = some tu) (hun : tu.n = 1)
  (hs : Nat.blt s6 n = true) (hs7 : Nat.blt s7 n = true) (hd : Nat.blt d n = true)
  (hx : X P B w0 T n a e h gs fun ex e h gs=>match ex with
   | .normal=>XL P B w0 T n ops.toList (ops.toList.take mm) e h gs fun e1 h1 gs1=>∃ (els : List (List TV)) (hp : Nl (.sl true els)) (c : List TV) (j : Nat) (hpj : Nl (.v (.int .i64 (j : Int)))) (kk : IntKind) (a0 m : Int),xev n e1 x = .p (.sl true els) hp∧xev n e1 y = .p (.v (.int .i64 (j : Int))) hpj∧els[j]? = some c∧c.length = te.n∧c[fo]? = some (.v (.int kk a0)) ∧
     (∀ v v',tev (((toL n e1).set s6 v).set s7 v') z = .v (.int kk m))∧(∀ (C C' : Cx) (u : Value),Shp C.B C.w C'.w→C'.B = C.B→(∀ k,C'.S k)→Dn C (look e1 d).den u→∃ y,r y∧Dn C' (v y).den u) ∧
     ∀ y,r y→forceE ((d,v y) :: mapE spX e1) fun e2=>putK n e2 (some s6) .any fun e3=>putK n e3 (some s7) .any fun e4=>K .normal e4 [] (anyM gs1)
   | ex=>K ex e h gs) (hne : Nat.beq s6 d = false) (hne7 : Nat.beq s7 d = false) : XT P B w0 n (.seq a (.region id ops false)) e h gs K:=⟨fun gh Q hq=>by
 refine .seq ((X_ok O hx).ok gh _ fun ex e h gs h1=>?_)
 cases ex <;> try exact hq _ _ _ _ h1
 refine .region ?_
 rw [← List.take_append_drop mm ops.toList,hops]
 refine .cat ?_
 refine XL_ok O ops gh _ h1 fun e1 h1 gs1 hh=>?_
 obtain ⟨els,hp,c,j,hpj,kk,a0,m,g1,g2,g3,g3',g3'',g4,g5,g6⟩:=hh
 have hsn:=Nat.blt_eq.mp hs
 have hsn7:=Nat.blt_eq.mp hs7
 have hdn:=Nat.blt_eq.mp hd
 refine TL.overF h6 h7 h8 ht hk he htf hkf hff hft (fun h0=>by rw [h0] at hgn; cases hgn) hu hun (by have:=xev_den (n:=n) (e:=e1) (x:=x); rw [g1] at this; exact this.symm) (by have:=xev_den (n:=n) (e:=e1) (x:=y); rw [g2] at this; exact this.symm) g3 g3' g3'' g4 (by show s6 < (toL n e1).length; rw [toL_len]; exact hsn) (by show s7 < (toL n e1).length; rw [toL_len]; exact hsn7) ?_
 intro ρ a w w' p p' hr hb
 obtain ⟨u,hu1,hu2⟩:=hr.slots.at_ d _ (toL_get? e1 hdn)
 obtain ⟨y,hy,hv⟩:=g5 (cxOf B ρ (Go.Proofs.YtpgfhkbnngjegaaGreatDoor.hf (h1.map XLB.den)) w) (cxOf B ρ (Go.Proofs.YtpgfhkbnngjegaaGreatDoor.hf []) w') u hb rfl (fun k=>⟨fun i hi=>by simp [Go.Proofs.YtpgfhkbnngjegaaGreatDoor.hf,LB.here] at hi,fun i hp=>by simp [Go.Proofs.YtpgfhkbnngjegaaGreatDoor.hf,LB.ps] at hp⟩) hu2
 obtain ⟨e',he',hk2⟩:=putK_ok (forceE_ok (k:=fun e2=>putK n e2 (some s6) .any fun e3=>putK n e3 (some s7) .any fun e4=>K .normal e4 [] (anyM gs1)) (g6 y hy))
 obtain ⟨e'',he'',hk3⟩:=putK_ok hk2
 refine ⟨_,ρ,hq _ _ _ _ hk3,?_,anyM_dn hr.ghost,Rel.none hr.rel.gl0 (hr.rel.below.trans hb.below) (Nat.le_trans hr.rel.size hb.below.size) (hr.rel.oth.trans hb.oth),by rw [put_defers,put_defers]; exact hr.defers⟩
 show DnL _ (toL n e'') _
 rw [he'']
 refine put_dn (dst:=some s7) ?_ (by simp [XV.den,Dn])
 rw [he',toL_set _ _ hdn]
 refine put_dn (dst:=some s6) ?_ (by simp [XV.den,Dn])
 have h1:=(sp_dn (C':=cxOf B ρ (Go.Proofs.YtpgfhkbnngjegaaGreatDoor.hf []) w') hr.slots).set d hv
 have e2 : a.tmps.toList.set d u = a.tmps.toList:=by
  apply List.ext_getElem?
  intro i
  rw [List.getElem?_set]
  split
  ·rename_i hi; subst hi; split
   ·exact hu1.symm
   ·rename_i h2; rw [List.getElem?_eq_none (by omega)]
  ·rfl
 rw [e2] at h1
 exact h1⟩
end
end Go.Proofs.YtpgfhkbnngjegaaGreatDoor
