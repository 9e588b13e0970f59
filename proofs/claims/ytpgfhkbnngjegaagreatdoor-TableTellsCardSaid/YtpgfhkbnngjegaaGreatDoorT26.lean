/- Blocks that are new, taken together; calls whose result lies in blocks that are taken together. No condition. -/
import Derived.Test.YtpgfhkbnngjegaaGreatDoorT14
import Derived.Test.YtpgfhkbnngjegaaGreatDoorRead
import Derived.OpenShut
import Derived.Test.YtpgfhkbnngjegaaGreatDoorT5
namespace Go.Proofs.YtpgfhkbnngjegaaGreatDoor
open Go.ChangeShapes Go.WideShapes Go.ChangeAt Go.RowKit
set_option linter.unusedVariables false
set_option linter.unusedSimpArgs false
inductive Sh where
 | int (k : IntKind)
 | bool
 | str
 | sl (el : List Sh)
mutual
def ShV : Sh→TV→Prop
 | .int k,t=>∃ n,t = .v (.int k n)∧(Lit.int k n).wf = true
 | .bool,t=>∃ b,t = .v (.bool b)
 | .str,t=>∃ s : ByteArray,t = .v (.string s)∧s.size ≤ maxLen
 | .sl el,t=>∃ els,t = .sl false els∧els.length ≤ maxLen∧∀ c ∈ els,ShL el c
def ShL : List Sh→List TV→Prop
 | [],ts=>ts = []
 | s :: ss,ts=>∃ t us,ts = t :: us∧ShV s t∧ShL ss us
end
theorem ShL.append : ∀ {a b : List Sh} {x y : List TV},ShL a x→ShL b y→ShL (a ++ b) (x ++ y)
 | [],b,x,y,h,k=>by simp only [ShL] at h; subst h; exact k
 | s :: a,b,x,y,h,k=>by
  simp only [ShL] at h
  obtain ⟨t,us,rfl,h1,h2⟩:=h
  show ShL (s :: (a ++ b)) (t :: (us ++ y))
  simp only [ShL]
  exact ⟨t,_,rfl,h1,h2.append k⟩
def shFs (f : TypeId→Option (List Sh)) (co : TypeId→Nat) : List Field→Nat→Option (List Sh × Nat)
 | [],acc=>some ([],acc)
 | x :: xs,acc=>if x.offset = acc then (f x.type).bind fun s=>if s.length = co x.type then (shFs f co xs (acc + s.length)).map fun r=>(s ++ r.1,r.2) else none else none
def repSh : Nat→List Sh→List Sh
 | 0,_=>[]
 | n + 1,s=>s ++ repSh n s
def shOf (P : Program) : Nat→TypeId→Option (List Sh)
 | 0,_=>none
 | n + 1,t=>match P.underlying t with
  | some .bool=>some [.bool]
  | some (.int k)=>some [.int k]
  | some .string=>some [.str]
  | some (.slice e)=>(shOf P n e).bind fun s=>if 0 < s.length∧s.length = P.cellsOf e then some [.sl s] else none
  | some (.struct fs)=>(shFs (shOf P n) P.cellsOf fs.toList 0).bind fun r=>if r.2 = P.cellsOf t then some r.1 else none
  | some (.array len e)=>(shOf P n e).bind fun s=>if s.length = P.cellsOf e∧len * s.length = P.cellsOf t then some (repSh len s) else none
  | _=>none
def cIn (w : World) : Cx:=⟨w,fun _=>True,w.heap.size,fun _=>.nilFunc,fun _=>False,fun _ _ _ _ _=>False,fun _ _=>False⟩
theorem chunks_flat {α : Type} (k : Nat) (vs : List α) : ∀ m,((List.range m).map fun i=>(vs.drop (i * k)).take k).flatten = vs.take (m * k)
 | 0=>by simp
 | m + 1=>by
  rw [List.range_succ,List.map_append,List.flatten_append,chunks_flat k vs m]
  simp only [List.map_cons,List.map_nil,List.flatten_cons,List.flatten_nil,List.append_nil]
  rw [Nat.succ_mul,List.take_add]
theorem dnll_map {C : Cx} {T : Nat→List TV} {c : Nat→List Value} : ∀ l : List Nat,(∀ i ∈ l,DnL C (T i) (c i))→DnLL C (l.map T) (l.map c)
 | [],_=>DnLL.nil
 | i :: l,h=>DnLL.cons (h i (by simp)) (dnll_map l fun j hj=>h j (by simp [hj]))
section
variable {H : Type} {enc : TypeId × Value→H} {P : Program} {w : World} {base : Nat} {held : Bool}
theorem fs_open {n m : Nat} {cs : List Value} (ih : ∀ t cs x shs,DataW.trod enc P w base (fun _=>true) held m t cs = some x→shOf P n t = some shs→∃ tvs,DnL (cIn w) tvs cs∧ShL shs tvs) :
  ∀ (l : List Field) (acc : Nat) (sh : List Sh) (len : Nat),shFs (shOf P n) P.cellsOf l acc = some (sh,len)→(∀ f ∈ l,∃ y,DataW.trod enc P w base (fun _=>true) held m f.type ((cs.drop f.offset).take (P.cellsOf f.type)) = some y) →
   acc ≤ len∧∃ tvs,DnL (cIn w) tvs ((cs.drop acc).take (len - acc))∧ShL sh tvs
 | [],acc,sh,len,h,_=>by
  simp only [shFs,Option.some.injEq,Prod.mk.injEq] at h
  obtain ⟨rfl,rfl⟩:=h
  exact ⟨Nat.le_refl _,[],by simp [DnL],by simp [ShL]⟩
 | f :: l,acc,sh,len,h,hf=>by
  simp only [shFs] at h
  split at h
  case isFalse=>cases h
  rename_i hoff
  cases hs : shOf P n f.type with
  | none=>rw [hs] at h; cases h
  | some s=>
   rw [hs] at h
   simp only [Option.bind_some] at h
   split at h
   case isFalse=>cases h
   rename_i hlen
   cases hr : shFs (shOf P n) P.cellsOf l (acc + s.length) with
   | none=>rw [hr] at h; cases h
   | some r=>
    obtain ⟨sh',len'⟩:=r
    rw [hr] at h
    simp only [Option.map_some,Option.some.injEq,Prod.mk.injEq] at h
    obtain ⟨rfl,rfl⟩:=h
    obtain ⟨h1,tvs,h2,h3⟩:=fs_open ih l _ _ _ hr fun g hg=>hf g (by simp [hg])
    obtain ⟨y,hy⟩:=hf f (by simp)
    obtain ⟨tv,h4,h5⟩:=ih _ _ _ _ hy hs
    refine ⟨by omega,tv ++ tvs,?_,h5.append h3⟩
    rw [hoff,← hlen] at h4
    have e : (cs.drop acc).take (len' - acc) = (cs.drop acc).take s.length ++ (cs.drop (acc + s.length)).take (len' - (acc + s.length)):=by
     rw [show len' - acc = s.length + (len' - (acc + s.length)) by omega,List.take_add,List.drop_drop]
    rw [e]
    exact h4.append h2
theorem arr_open {n m : Nat} {e : TypeId} {s : List Sh} {cs : List Value} (ih : ∀ t cs x shs,DataW.trod enc P w base (fun _=>true) held m t cs = some x→shOf P n t = some shs→∃ tvs,DnL (cIn w) tvs cs∧ShL shs tvs) (hs : shOf P n e = some s) (k : Nat) :
  ∀ (len i0 : Nat),(∀ i,i0 ≤ i→i < i0 + len→∃ y,DataW.trod enc P w base (fun _=>true) held m e ((cs.drop (i * k)).take k) = some y)→∃ tvs,DnL (cIn w) tvs ((cs.drop (i0 * k)).take (len * k))∧ShL (repSh len s) tvs
 | 0,i0,_=>⟨[],by simp [DnL],by simp [repSh,ShL]⟩
 | len + 1,i0,hf=>by
  obtain ⟨y,hy⟩:=hf i0 (Nat.le_refl _) (by omega)
  obtain ⟨tv,h4,h5⟩:=ih _ _ _ _ hy hs
  obtain ⟨tvs,h2,h3⟩:=arr_open ih hs k len (i0 + 1) fun i h1 h2=>hf i (by omega) (by omega)
  refine ⟨tv ++ tvs,?_,h5.append h3⟩
  have e1 : (cs.drop (i0 * k)).take ((len + 1) * k) = (cs.drop (i0 * k)).take k ++ (cs.drop ((i0 + 1) * k)).take (len * k):=by
   rw [Nat.succ_mul len,Nat.add_comm,List.take_add,List.drop_drop,Nat.succ_mul]
  rw [e1]
  exact h4.append h2
theorem sh_open : ∀ (n fuel : Nat) (t : TypeId) (cs : List Value) (x : DataW H × List MemPlace) (shs : List Sh),DataW.trod enc P w base (fun _=>true) held fuel t cs = some x→shOf P n t = some shs→∃ tvs,DnL (cIn w) tvs cs∧ShL shs tvs
 | 0,_,_,_,_,_,_,h=>by cases h
 | n + 1,fuel,t,cs,x,shs,hf,h=>by
  unfold shOf at h
  split at h
  ·rename_i hu
   obtain ⟨b,rfl,_⟩:=DataW.trod_bool hu hf
   injection h with h
   subst h
   exact ⟨[.v (.bool b)],DnL.cons (by simp [Dn]) .nil,by simp only [ShL,ShV]; exact ⟨_,_,rfl,⟨b,rfl⟩,rfl⟩⟩
  ·rename_i k hu
   obtain ⟨m,rfl,_,hw⟩:=DataW.trod_int hu hf
   injection h with h
   subst h
   exact ⟨[.v (.int k m)],DnL.cons (by simp [Dn]) .nil,by simp only [ShL,ShV]; exact ⟨_,_,rfl,⟨m,rfl,hw⟩,rfl⟩⟩
  ·rename_i hu
   obtain ⟨s,rfl,_,hs⟩:=DataW.trod_string hu hf
   injection h with h
   subst h
   exact ⟨[.v (.string s)],DnL.cons (by simp [Dn]) .nil,by simp only [ShL,ShV]; exact ⟨_,_,rfl,⟨s,rfl,hs⟩,rfl⟩⟩
  ·rename_i e hu
   cases hs : shOf P n e with
   | none=>rw [hs] at h; cases h
   | some s=>
    rw [hs] at h
    simp only [Option.bind_some] at h
    split at h
    case isFalse=>cases h
    rename_i hk
    injection h with h
    subst h
    obtain ⟨A,m,cap,vs,rfl,h1,h2,h3,h4⟩:=open_elems hu hk.2.symm hk.1 hf
    have hex : ∀ i,∃ tv,i < m→DnL (cIn w) tv ((vs.drop (i * s.length)).take s.length)∧ShL s tv:=fun i=>by
     by_cases hi : i < m
     ·obtain ⟨f,y,hy⟩:=h4 i hi
      obtain ⟨tv,h5,h6⟩:=sh_open n f e _ y s hy hs
      exact ⟨tv,fun _=>⟨h5,h6⟩⟩
     ·exact ⟨[],fun h=>absurd h hi⟩
    obtain ⟨T,hT⟩:=Classical.axiomOfChoice hex
    have hll:=dnll_map (C:=cIn w) (T:=T) (c:=fun i=>(vs.drop (i * s.length)).take s.length) (List.range m) fun i hi=>(hT i (List.mem_range.1 hi)).1
    have hfl : ((List.range m).map fun i=>(vs.drop (i * s.length)).take s.length).flatten = vs:=by
     rw [chunks_flat,List.take_of_length_le (by rw [h3.1]; exact Nat.le_refl _)]
    refine ⟨[.sl false ((List.range m).map T)],DnL.cons ?_ .nil,?_⟩
    ·simp only [Dn]
     refine ⟨A,cap,_,s.length,by simp,by simpa using h1,h2,fun ha=>by rw [h3.2.1 ha]; rfl,fun c hc=>?_,hll,fun ad ha=>⟨fun hne=>⟨trivial,?_,fun hb=>by cases hb⟩,fun j x hx=>?_⟩⟩
     ·obtain ⟨i,hi,rfl⟩:=List.mem_map.1 hc
      have hi':=List.mem_range.1 hi
      have:=h3.1
      rw [List.length_take,List.length_drop,this,Nat.min_eq_left]
      have h7 : (i + 1) * s.length ≤ m * s.length:=Nat.mul_le_mul_right _ (by omega)
      rw [Nat.succ_mul] at h7
      omega
     ·refine h3.lt ?_ ha
      rcases Nat.eq_zero_or_pos m with hm | hm
      ·subst hm; simp at hne
      ·exact hm
     ·rw [hfl] at hx
      exact (h3.2.2 ad ha).2 j x hx
    ·simp only [ShL,ShV]
     refine ⟨_,_,rfl,⟨_,rfl,by simpa using Nat.le_trans h1 h2,fun c hc=>?_⟩,rfl⟩
     obtain ⟨i,hi,rfl⟩:=List.mem_map.1 hc
     exact (hT i (List.mem_range.1 hi)).2
  ·rename_i fs hu
   cases hs : shFs (shOf P n) P.cellsOf fs.toList 0 with
   | none=>rw [hs] at h; cases h
   | some r=>
    obtain ⟨sh,len⟩:=r
    rw [hs] at h
    simp only [Option.bind_some] at h
    split at h
    case isFalse=>cases h
    rename_i hlen
    injection h with h
    subst h
    obtain ⟨xs,m,rfl,_,h1,h2,h3⟩:=DataW.trod_struct hu hf
    obtain ⟨_,tvs,h4,h5⟩:=fs_open (cs:=cs) (fun t cs x shs h=>sh_open n m t cs x shs h) fs.toList 0 sh len hs fun f hf=>by
     obtain ⟨i,hi,rfl⟩:=List.mem_iff_getElem.1 hf
     have hi' : i < fs.size:=by simpa using hi
     have h6:=h3 i _ (Array.getElem?_eq_getElem hi')
     rw [List.getElem?_eq_getElem (by omega)] at h6
     exact ⟨_,by simpa using h6⟩
    refine ⟨tvs,?_,h5⟩
    rw [List.drop_zero,Nat.sub_zero,List.take_of_length_le (by omega)] at h4
    exact h4
  ·rename_i len e hu
   cases hs : shOf P n e with
   | none=>rw [hs] at h; cases h
   | some s=>
    rw [hs] at h
    simp only [Option.bind_some] at h
    split at h
    case isFalse=>cases h
    rename_i hk
    injection h with h
    subst h
    obtain ⟨xs,m,rfl,_,h1,h2,h3⟩:=DataW.trod_array hu hf
    obtain ⟨tvs,h4,h5⟩:=arr_open (cs:=cs) (fun t cs x shs h=>sh_open n m t cs x shs h) hs s.length len 0 fun i _ hi=>by
     have h6:=h3 i (by omega)
     rw [List.getElem?_eq_getElem (by omega)] at h6
     exact ⟨_,by simpa [hk.1] using h6⟩
    refine ⟨tvs,?_,h5⟩
    rw [Nat.zero_mul,List.drop_zero,List.take_of_length_le (by omega)] at h4
    exact h4
  ·cases h
theorem open_sl {b0 : Nat} {n : Nat} {t e : TypeId} {sh : List Sh} {v : Value} {d : DataW H} {p : List MemPlace} (ht : P.underlying t = some (.slice e)) (hsh : shOf P n t = some [.sl sh]) (hv : Value.okWide P w .any b0 t v) (h : DataW.Trod enc P w base (fun _=>true) held t v d p) :
  ∃ els,Dn (cIn w) (.sl false els) v∧els.length ≤ maxLen∧∀ c ∈ els,ShL sh c:=by
 obtain ⟨a0,len0,cap0,rfl⟩:=okWide_slice ht hv
 obtain ⟨fuel,hf⟩:=h
 obtain ⟨tvs,h1,h2⟩:=sh_open n fuel t _ _ _ hf hsh
 simp only [ShL,ShV] at h2
 obtain ⟨t1,us,rfl,⟨els,rfl,h3,h4⟩,rfl⟩:=h2
 simp only [Value.cells,DnL] at h1
 obtain ⟨u,us',h5,h6,_⟩:=h1
 simp at h5
 obtain ⟨rfl,_⟩:=h5
 exact ⟨els,h6,h3,h4⟩
end
theorem image_of {α : Type} {f : α→List TV} {Q : α→Prop} : ∀ {els : List (List TV)},(∀ c ∈ els,∃ y,c = f y∧Q y)→∃ l : List α,els = l.map f∧l.length = els.length∧∀ y ∈ l,Q y
 | [],_=>⟨[],rfl,rfl,by simp⟩
 | c :: els,h=>by
  obtain ⟨y,rfl,hy⟩:=h c (by simp)
  obtain ⟨l,rfl,hl,h2⟩:=image_of (els:=els) fun c hc=>h c (by simp [hc])
  exact ⟨y :: l,rfl,by simp,fun z hz=>by rcases List.mem_cons.1 hz with rfl | hz; exact hy; exact h2 z hz⟩
theorem sh_sl {sh : List Sh} {t : TV} (h : ShV (.sl sh) t) : ∃ els,t = .sl false els∧els.length ≤ maxLen∧∀ c ∈ els,ShL sh c:=by simp only [ShV] at h; exact h
theorem shL1 {a : Sh} {c : List TV} (h : ShL [a] c) : ∃ x,c = [x]∧ShV a x:=by
 simp only [ShL] at h
 obtain ⟨x,_,rfl,h1,rfl⟩:=h
 exact ⟨x,rfl,h1⟩
end Go.Proofs.YtpgfhkbnngjegaaGreatDoor

namespace Go.Proofs.YtpgfhkbnngjegaaGreatDoor
open Go.RowKit
set_option linter.unusedVariables false
set_option linter.unusedSimpArgs false
end Go.Proofs.YtpgfhkbnngjegaaGreatDoor

namespace Go.Proofs.YtpgfhkbnngjegaaGreatDoor
open Go.RowKit
set_option linter.unusedVariables false
set_option linter.unusedSimpArgs false
section
variable {P : Program} {B : Nat} {w0 : World} {gh : List Value} {σ : St}
theorem TL.copy {Q : Exit→St→Prop} {ops : Array Oper} {o : Oper} {rest : List Oper} {cl : Call} {s x : Operand} {t tx : TypeId} {i : Nat} {els ys : List (List TV)} {ti te : TI} (hg : o.guard = none) (ho : o.op = .call cl) (hcl : cl = { callee:=.builtin .copy,args:=#[s,x],argTypes:=#[t,tx] })
  (T : ApTy P t ti te) (ht1 : te.n = 1) (hs : tev σ.s s = .row i) (hi : hf σ.h i = .row ti.el te.n els) (hx : Elems σ x ys) (hlen : ∀ c ∈ ys,c.length = te.n) (hone : ∀ c ∈ ys,c.all TV.one = true) (hle : ys.length ≤ els.length)
  (h : TL P B w0 gh ops rest ⟨match o.dst with | some d=>σ.s.set d (.v (.int .i64 ys.length)) | none=>σ.s,σ.h.set i (.row ti.el te.n (ys ++ els.drop ys.length)),σ.g⟩ Q) : TL P B w0 gh ops (o :: rest) σ Q:=fun ρ a w hr=>by
 have R:=hr.rel
 have e1:=tev_dn hr.slots s
 rw [hs] at e1
 simp only [Dn] at e1
 obtain ⟨A,c,css,r1,r2,r3,r4⟩:=R.row i _ _ _ hi
 have hu : a.eval s = .slice A els.length c:=e1.2.trans r1
 rw [r1] at r2
 obtain ⟨A2,c2,css2,s1,s2,s3,s4⟩:=elems_sees hr hx hlen T.hn
 obtain ⟨z,E⟩:=T.elem
 have hil : i < σ.h.length:=hf_lt hi (by simp)
 have hhere : (hf σ.h i).here:=by rw [hi]; trivial
 have hfl : css2.flatten ++ css.flatten.drop ys.length = (css2 ++ css.drop ys.length).flatten:=by
  have e3 : ys.length = css2.length:=s3.len.symm
  have e2 : css.flatten.drop ys.length = (css.drop ys.length).flatten:=by
   have key : ∀ (k : Nat) (l : List (List Value)),(∀ x ∈ l,x.length = 1)→l.flatten.drop k = (l.drop k).flatten:=by
    intro k
    induction k with
    | zero=>intro l _; simp
    | succ k ih=>
     intro l hl
     cases l with
     | nil=>simp
     | cons y l=>
      have hy:=hl y (List.mem_cons_self ..)
      match y,hy with
      | [v],_=>simp [ih l fun x hx=>hl x (List.mem_cons_of_mem _ hx)]
   exact key _ _ (by rw [← ht1]; exact r3)
  rw [e2,List.flatten_append]
 have hlen2 : (ys ++ els.drop ys.length).length = els.length:=by simp; omega
 rw [ht1] at E r2 s2
 refine wl_copy E r2 s2 hle (elems_one R s3 hone) hg (by rw [ho,hcl]) hu s1 fun w' hown hbel hgr=>?_
 rw [hfl] at hown
 have hown1 : w'.ownsRow B ti.el te.n (ρ i) (ys ++ els.drop ys.length).length (css2 ++ css.drop ys.length).flatten:=by rw [hlen2,r1,ht1]; exact hown
 have hsz : ∀ x ∈ css2 ++ css.drop ys.length,x.length = te.n:=fun x hx=>by
  rcases List.mem_append.1 hx with hx | hx
  ·exact s4 x hx
  ·exact r3 x (List.mem_of_mem_drop hx)
 have fin : ∀ {h' : Nat→LB} (hh : h' = hf (σ.h.set i (.row ti.el te.n (ys ++ els.drop ys.length)))),Keeps (cxOf B ρ (hf σ.h) w) (cxOf B ρ h' w')→Rel B w0 ρ h' w'→wpList P ops (liftQ B w0 gh Q) rest (a.put o.dst (goInt ys.length)) w':=fun hh KK R'=>by
  subst hh
  refine h ρ _ _ ⟨?_,DnL.keep KK _ _ hr.ghost,R',by rw [put_defers]; exact hr.defers⟩
  exact put_dn (DnL.keep KK _ _ hr.slots) (by simp only [Dn]; rfl)
 have hh : updf (hf σ.h) i (.row ti.el te.n (ys ++ els.drop ys.length)) = hf (σ.h.set i (.row ti.el te.n (ys ++ els.drop ys.length))):=(hf_set hil _).symm
 cases A with
 | some ad=>
  have hblk : blkOf (ρ i) = some ad.block:=by rw [r1]; rfl
  have hob : Value.ownBlock (.slice (some ad) els.length c) = some ad.block:=rfl
  rw [hob] at hgr
  have hB : B ≤ ad.block:=(r2.lt ad.block hob).1
  have KK : Keeps (cxOf B ρ (hf σ.h) w) (cxOf B ρ (updf (hf σ.h) i (.row ti.el te.n (ys ++ els.drop ys.length))) w'):=.put hhere trivial hblk hgr
  refine fin hh KK (R.put hhere trivial hblk hB hgr (fun t cs e=>by cases e) (fun e sz els' e'=>?_))
  injection e' with e2 e3 e4
  subst e2 e3 e4
  refine ⟨some ad,c,css2 ++ css.drop ys.length,by rw [hlen2]; exact r1,hown1,hsz,?_⟩
  exact (DnLL.keep KK _ _ s3).append (DnLL.keep KK _ _ (r4.drop _))
 | none=>
  have hob : Value.ownBlock (.slice none els.length c) = none:=rfl
  rw [hob] at hgr
  have hbw : Below w.heap.size w w':=⟨hgr.os,hgr.tape,hgr.output,hgr.size,fun k hk=>hgr.block k hk (by simp)⟩
  have hnil : els = []:=by
   rcases r2.2 with ⟨_,h0⟩ | ⟨g,cap,cur,hv,_⟩
   ·exact List.eq_nil_of_length_eq_zero h0
   ·cases hv
  have hy : ys = []:=by
   subst hnil
   exact List.eq_nil_of_length_eq_zero (by simpa using hle)
  have hsame : hf σ.h = hf (σ.h.set i (.row ti.el te.n (ys ++ els.drop ys.length))):=by
   rw [← hh]
   funext j
   unfold updf
   by_cases hj : j = i
   ·subst hj; simp [hi,hnil,hy]
   ·simp [hj]
  exact fin hsame (.grow hbw) (R.grow hbw)
end
end Go.Proofs.YtpgfhkbnngjegaaGreatDoor

namespace Go.Proofs.YtpgfhkbnngjegaaGreatDoor
open Go.RowKit
set_option linter.unusedVariables false
set_option linter.unusedSimpArgs false
section
variable {B : Nat} {w0 w w' : World} {ρ : Nat→Value} {h : Nat→LB}
theorem Keeps.addX {n : Nat} {r : Value} {x : Ext} (hn : h n = .none) (hb : Below w.heap.size w w') (hr : blkOf r = none) (hp : ∀ k,x.p r k→w.heap.size ≤ k∧k < w'.heap.size) :
  Keeps (cxOf B ρ h w) (cxOf B (updf ρ n r) (updf h n (.ext x)) w') where
 blk k hS hk:=⟨hb.block k hk,⟨fun i hi=>by
  by_cases hin : i = n
  ·subst hin; rw [updf_same,hr]; simp
  ·rw [updf_ne _ _ hin] at hi ⊢; exact hS.1 i hi,fun i hi=>by
  by_cases hin : i = n
  ·subst hin
   rw [updf_same,updf_same] at hi
   have h1:=(hp k hi).1
   have hk' : k < w.heap.size:=hk
   omega
  ·rw [updf_ne _ _ hin,updf_ne _ _ hin] at hi; exact hS.2 i hi⟩,Nat.lt_of_lt_of_le hk hb.size⟩
 base:=Nat.le_refl _
 loc i hi:=by
  have hin : i ≠ n:=by
   rintro rfl
   have hi' : (h i).here:=hi
   rw [hn] at hi'
   exact hi'
  exact ⟨by show (updf h n (.ext x) i).here; rw [updf_ne _ _ hin]; exact hi,by show updf ρ n r i = ρ i; rw [updf_ne _ _ hin]⟩
 own _ _ _ _ _ ho:=ho
 zn i k hi hz hk:=by
  have hin : i ≠ n:=by
   rintro rfl
   have hi' : (h i).here:=hi
   rw [hn] at hi'
   exact hi'
  have hk' : k < w.heap.size:=hk
  refine ⟨hb.block k hk,⟨?_,?_,fun j hj=>?_,fun j hj hps=>?_⟩,Nat.lt_of_lt_of_le hk hb.size⟩
  ·show blkOf (updf ρ n r i) = Option.none
   rw [updf_ne _ _ hin]; exact hz.1
  ·show (updf h n (.ext x) i).zs (updf ρ n r i) k
   rw [updf_ne _ _ hin,updf_ne _ _ hin]; exact hz.2.1
  ·by_cases hjn : j = n
   ·subst hjn; rw [updf_same,hr]; simp
   ·rw [updf_ne _ _ hjn] at hj ⊢; exact hz.2.2.1 j hj
  ·by_cases hjn : j = n
   ·subst hjn
    rw [updf_same,updf_same] at hps
    have:=(hp k hps).1
    omega
   ·rw [updf_ne _ _ hjn,updf_ne _ _ hjn] at hps; exact hz.2.2.2 j hj hps
theorem Rel.addX {n : Nat} {r : Value} {x : Ext} (R : Rel B w0 ρ h w) (hn : h n = .none) (hb : Below w.heap.size w w') (hr : blkOf r = none) (h1 : r.oneCell' = true) (hp : ∀ k,x.p r k→w.heap.size ≤ k∧k < w'.heap.size) (hq : x.Q r w') :
  Rel B w0 (updf ρ n r) (updf h n (.ext x)) w' where
 below:=R.below.trans (hb.mono R.size)
 gl0:=R.gl0
 size:=Nat.le_trans R.size hb.size
 blk i t cs hi:=by
  by_cases hin : i = n
  ·subst hin; rw [updf_same] at hi; cases hi
  ·rw [updf_ne _ _ hin] at hi ⊢
   obtain ⟨g,vs,h1,h2,h3,h4⟩:=R.blk i t cs hi
   exact ⟨g,vs,h1,h2.below hb,h3,DnL.keep (.addX hn hb hr hp) _ _ h4⟩
 row i e sz els hi:=by
  by_cases hin : i = n
  ·subst hin; rw [updf_same] at hi; cases hi
  ·rw [updf_ne _ _ hin] at hi ⊢
   obtain ⟨A,c,css,h1,h2,h3,h4⟩:=R.row i e sz els hi
   exact ⟨A,c,css,h1,own_below h2 hb,h3,DnLL.keep (.addX hn hb hr hp) _ _ h4⟩
 sep i j g hi hj hgi hgj:=by
  by_cases hin : i = n
  ·subst hin; rw [updf_same,hr] at hgi; cases hgi
  ·by_cases hjn : j = n
   ·subst hjn; rw [updf_same,hr] at hgj; cases hgj
   ·rw [updf_ne _ _ hin] at hi hgi
    rw [updf_ne _ _ hjn] at hj hgj
    exact R.sep i j g hi hj hgi hgj
 inj i g hi hg:=by
  by_cases hin : i = n
  ·subst hin; rw [updf_same,hr] at hg; cases hg
  ·rw [updf_ne _ _ hin] at hi hg
   exact Nat.lt_of_lt_of_le (R.inj i g hi hg) hb.size
 oth:=R.oth.trans (.below hb)
 ext i y hi:=by
  by_cases hin : i = n
  ·subst hin
   rw [updf_same] at hi
   injection hi with hi
   subst hi
   refine ⟨by rw [updf_same]; exact hq,fun k hk=>?_,by rw [updf_same]; exact hr,by rw [updf_same]; exact h1,fun j g hj hg hk=>?_,fun j k hj hk hps=>?_⟩
   ·rw [updf_same] at hk
    have:=hp k hk
    have h2:=R.size
    have h3:=R.below.size
    omega
   ·rw [updf_same] at hk
    by_cases hjn : j = i
    ·subst hjn; rw [updf_same,hr] at hg; cases hg
    ·rw [updf_ne _ _ hjn] at hj hg
     have h2:=R.inj j g hj hg
     have h3:=(hp g hk).1
     omega
   ·rw [updf_same] at hk
    rw [updf_ne _ _ hj,updf_ne _ _ hj] at hps
    have h2:=(R.ps_lt hps).2.1
    have h3:=(hp k hk).1
    omega
  ·rw [updf_ne _ _ hin] at hi
   have E:=R.ext i y hi
   refine ⟨by rw [updf_ne _ _ hin]; exact y.st _ _ _ E.q fun k hk=>hb.block k (E.at_ k hk).2.1,fun k hk=>?_,by rw [updf_ne _ _ hin]; exact E.no,by rw [updf_ne _ _ hin]; exact E.one,fun j g hj hg=>?_,fun j k hj hk hps=>?_⟩
   ·rw [updf_ne _ _ hin] at hk
    have h1:=E.at_ k hk
    have:=hb.size
    exact ⟨h1.1,by omega,h1.2.2⟩
   ·rw [updf_ne (j:=i) _ _ hin]
    by_cases hjn : j = n
    ·subst hjn; rw [updf_same,hr] at hg; cases hg
    ·rw [updf_ne _ _ hjn] at hj hg; exact E.apart j g hj hg
   ·rw [updf_ne (j:=i) _ _ hin] at hk
    by_cases hjn : j = n
    ·subst hjn
     rw [updf_same,updf_same] at hps
     have h2:=(E.at_ k hk).2.1
     have h3:=(hp k hps).1
     omega
    ·rw [updf_ne _ _ hjn,updf_ne _ _ hjn] at hps
     exact E.two j k hj hk hps
end
def zv (lo hi : Nat) : Value:=.slice none lo hi
def zl (l : List Nat) : Value:=.func (.func 0) #[] (l.map fun k : Nat=>Value.int .i64 (k : Int)).toArray
def zoneX : Ext where
 p v k:=(∃ lo hi,v = zv lo hi∧lo ≤ k∧k < hi)∨∃ l,v = zl l∧k ∈ l
 Q _ _:=True
 st _ _ _ _ _:=trivial
 z:=true
mutual
def zt (n : Nat) : TV→TV
 | .agg ts=>.agg (ztL n ts)
 | .tup ts=>.tup (ztL n ts)
 | .v x=>.v x
 | .nil_=>.nil_
 | .any=>.any
 | t=>.z n t
def ztL (n : Nat) : List TV→List TV
 | []=>[]
 | t :: ts=>zt n t :: ztL n ts
end
mutual
theorem Dn.toZ {C : Cx} {S : Nat→Prop} {B : Nat} (hS : ∀ k,C.S k→k < C.w.heap.size→S k) (hB : B ≤ C.B) : ∀ (t : TV) (u : Value),Pu t→Dn C t u→DnZ C.w S B t u
 | .any,_,_,_=>by simp [DnZ]
 | .v x,u,_,h=>by simp only [Dn,DnZ] at h ⊢; exact h
 | .nil_,u,_,h=>by simp only [Dn,DnZ] at h ⊢; exact h
 | .agg ts,u,p,h=>by
  simp only [Dn,DnZ,Pu] at h p ⊢
  obtain ⟨vs,h1,h2⟩:=h
  exact ⟨vs,h1,DnL.toZ hS hB ts vs p h2⟩
 | .tup ts,u,p,h=>by
  simp only [Dn,DnZ,Pu] at h p ⊢
  obtain ⟨vs,h1,h2⟩:=h
  exact ⟨vs,h1,DnL.toZ hS hB ts vs p h2⟩
 | .fn f ts,u,p,h=>by
  simp only [Dn,DnZ,Pu] at h p ⊢
  obtain ⟨vs,h1,h2⟩:=h
  exact ⟨vs,h1,DnL.toZ hS hB ts vs p h2⟩
 | .ptr i off,u,p,_=>by simp only [Pu] at p
 | .row i,u,p,_=>by simp only [Pu] at p
 | .osl e sz els,u,p,_=>by simp only [Pu] at p
 | .z _ _,u,p,_=>by simp only [Pu] at p
 | .win _ _ _,u,p,_=>by simp only [Pu] at p
 | .eptr ts,u,p,h=>by
  simp only [Dn,DnZ,Pu] at h p ⊢
  obtain ⟨ad,vs,h1,h2,h3,h4,h5⟩:=h
  exact ⟨ad,vs,h1,hS _ h2 h3,h3,DnL.toZ hS hB ts vs p h4,h5⟩
 | .sl b els,u,p,h=>by
  simp only [Dn,DnZ,Pu] at h p ⊢
  obtain ⟨A,c,css,sz,h1,h2,h3,h4,h5,h6,h7⟩:=h
  refine ⟨A,c,css,sz,h1,h2,h3,h4,h5,DnLL.toZ hS hB els css p h6,fun ad ha=>⟨fun hne=>?_,(h7 ad ha).2⟩⟩
  obtain ⟨h10,h11,h12⟩:=(h7 ad ha).1 hne
  exact ⟨hS _ h10 h11,h11,fun hb=>⟨Nat.le_trans hB (h12 hb).1,(h12 hb).2⟩⟩
theorem DnL.toZ {C : Cx} {S : Nat→Prop} {B : Nat} (hS : ∀ k,C.S k→k < C.w.heap.size→S k) (hB : B ≤ C.B) : ∀ (ts : List TV) (us : List Value),PuL ts→DnL C ts us→DnZL C.w S B ts us
 | [],us,_,h=>by simp only [DnL,DnZL] at h ⊢; exact h
 | t :: ts,us,p,h=>by
  simp only [DnL,DnZL,PuL] at h p ⊢
  obtain ⟨u,us',h1,h2,h3⟩:=h
  exact ⟨u,us',h1,Dn.toZ hS hB t u p.1 h2,DnL.toZ hS hB ts us' p.2 h3⟩
theorem DnLL.toZ {C : Cx} {S : Nat→Prop} {B : Nat} (hS : ∀ k,C.S k→k < C.w.heap.size→S k) (hB : B ≤ C.B) : ∀ (ts : List (List TV)) (us : List (List Value)),PuLL ts→DnLL C ts us→DnZLL C.w S B ts us
 | [],us,_,h=>by simp only [DnLL,DnZLL] at h ⊢; exact h
 | t :: ts,us,p,h=>by
  simp only [DnLL,DnZLL,PuLL] at h p ⊢
  obtain ⟨u,us',h1,h2,h3⟩:=h
  exact ⟨u,us',h1,DnL.toZ hS hB t u p.1 h2,DnLL.toZ hS hB ts us' p.2 h3⟩
end
mutual
theorem Dn.zt {C C' : Cx} {n : Nat} (hw : C'.w = C.w) (hn : C'.pres n) (hS : ∀ k,C.S k→k < C.w.heap.size→C'.Z n k) (hB : C'.B ≤ C.B) : ∀ (t : TV) (u : Value),Pu t→Dn C t u→Dn C' (zt n t) u
 | .any,_,_,_=>by simp [Dn,Go.Proofs.YtpgfhkbnngjegaaGreatDoor.zt]
 | .v x,u,_,h=>by simp only [Dn,Go.Proofs.YtpgfhkbnngjegaaGreatDoor.zt] at h ⊢; exact h
 | .nil_,u,_,h=>by simp only [Dn,Go.Proofs.YtpgfhkbnngjegaaGreatDoor.zt] at h ⊢; exact h
 | .agg ts,u,p,h=>by
  simp only [Dn,Go.Proofs.YtpgfhkbnngjegaaGreatDoor.zt,Pu] at h p ⊢
  obtain ⟨vs,h1,h2⟩:=h
  exact ⟨vs,h1,DnL.zt hw hn hS hB ts vs p h2⟩
 | .tup ts,u,p,h=>by
  simp only [Dn,Go.Proofs.YtpgfhkbnngjegaaGreatDoor.zt,Pu] at h p ⊢
  obtain ⟨vs,h1,h2⟩:=h
  exact ⟨vs,h1,DnL.zt hw hn hS hB ts vs p h2⟩
 | .fn f ts,u,p,h=>by
  simp only [Go.Proofs.YtpgfhkbnngjegaaGreatDoor.zt]; simp only [Dn,hw]; exact ⟨hn,Dn.toZ hS hB (.fn f ts) u p h⟩
 | .sl b els,u,p,h=>by
  simp only [Go.Proofs.YtpgfhkbnngjegaaGreatDoor.zt]; simp only [Dn,hw]; exact ⟨hn,Dn.toZ hS hB (.sl b els) u p h⟩
 | .eptr ts,u,p,h=>by
  simp only [Go.Proofs.YtpgfhkbnngjegaaGreatDoor.zt]; simp only [Dn,hw]; exact ⟨hn,Dn.toZ hS hB (.eptr ts) u p h⟩
 | .ptr i off,u,p,_=>by simp only [Pu] at p
 | .row i,u,p,_=>by simp only [Pu] at p
 | .osl e sz els,u,p,_=>by simp only [Pu] at p
 | .z _ _,u,p,_=>by simp only [Pu] at p
 | .win _ _ _,u,p,_=>by simp only [Pu] at p
theorem DnL.zt {C C' : Cx} {n : Nat} (hw : C'.w = C.w) (hn : C'.pres n) (hS : ∀ k,C.S k→k < C.w.heap.size→C'.Z n k) (hB : C'.B ≤ C.B) : ∀ (ts : List TV) (us : List Value),PuL ts→DnL C ts us→DnL C' (ztL n ts) us
 | [],us,_,h=>by simp only [DnL,ztL] at h ⊢; exact h
 | t :: ts,us,p,h=>by
  simp only [DnL,ztL,PuL] at h p ⊢
  obtain ⟨u,us',h1,h2,h3⟩:=h
  exact ⟨u,us',h1,Dn.zt hw hn hS hB t u p.1 h2,DnL.zt hw hn hS hB ts us' p.2 h3⟩
end
section
variable {P : Program} {B : Nat} {w0 : World} {h : List LB} {s : List TV} {o : Oper}
theorem S_call_z {cl : Call} {fop : Operand} {f : FuncId} {caps ts : List TV} {r : TV} (ho : o.op = .call cl) (hcl : cl.callee = .value fop) (hf : tev s fop = .fn (.func f) caps) (hE : entB P f = true)
  (ha : argPL h (cl.args.toList.map (tev s) ++ caps) = some ts) (hm : TMeets P f ts r) (hr : Pu r) : TStep P B w0 h s o (zt h.length r) (some (.ext zoneX)):=by
 intro ρ h' w a H hn R hx K Q hK
 refine call_enters ho hcl hf hE ha hm H R hx fun u w' ov hb hov hd=>?_
 have hnone:=hn rfl
 have hp : ∀ k,zoneX.p (zv w.heap.size w'.heap.size) k→w.heap.size ≤ k∧k < w'.heap.size:=fun k hk=>by
  rcases hk with ⟨lo,hi,e,h1,h2⟩ | ⟨l,e,_⟩
  ·injection e with _ e1 e2
   omega
  ·cases e
 refine hK u w' (updf ρ h.length (zv w.heap.size w'.heap.size)) (R.addX hnone hb rfl rfl hp trivial) (.addX hnone hb rfl hp) hb ?_
 refine Dn.zt (C:=rsCx w.heap.size w' ov) (C':=cxOf B (updf ρ h.length (zv w.heap.size w'.heap.size)) (updf h' h.length (.ext zoneX)) w') rfl ?_ (fun k hk hk2=>?_) R.size _ _ hr hd
 ·show (updf h' h.length _ h.length).here
  rw [updf_same]; trivial
 ·have h1 : w.heap.size ≤ k:=hk.1
  refine ⟨?_,?_,fun j hj=>?_,fun j hj hps=>?_⟩
  ·show blkOf (updf ρ h.length _ h.length) = Option.none
   rw [updf_same]; rfl
  ·show (updf h' h.length (LB.ext zoneX) h.length).zs (updf ρ h.length _ h.length) k
   rw [updf_same,updf_same]
   exact ⟨rfl,.inl ⟨_,_,rfl,h1,hk2⟩⟩
  ·by_cases hjn : j = h.length
   ·subst hjn; rw [updf_same]; intro e; cases e
   ·rw [updf_ne _ _ hjn] at hj ⊢
    intro e
    have:=R.inj j k hj e
    omega
  ·rw [updf_ne _ _ hj,updf_ne _ _ hj] at hps
   have:=(R.ps_lt hps).2.1
   omega
end
end Go.Proofs.YtpgfhkbnngjegaaGreatDoor
