/- States by what was written last: values that bear their own proof that no local block is spoken of. No condition. -/
import Derived.Test.YtpgfhkbnngjegaaGreatDoorT26
import Derived.Laws.Strings
import Derived.Laws.Cover1
import Derived.Laws.Concat
import Derived.Laws.BytesArg
import Derived.Lib.ConvBytes
import Derived.Laws.Pointers
namespace Go.Proofs.YtpgfhkbnngjegaaGreatDoor
open Go.RowKit
set_option linter.unusedVariables false
set_option linter.unusedSimpArgs false
section
variable {P : Program} {B : Nat} {w0 : World} {h : List LB} {s : List TV} {o : Oper}
def bs (u : ByteArray) : List UInt8:=u.data.toList
theorem bs_eq (u : ByteArray) : u.toList = bs u:=ByteArray.toList_eq ..
def bsEq (a b : ByteArray) : Bool:=bs a == bs b
theorem bsEq_t (a b : ByteArray) : (bsEq a b = true) = (bs a = bs b):=by simp [bsEq]
theorem bsEq_f (a b : ByteArray) : (bsEq a b = false) = ¬ (bs a = bs b):=by simp [bsEq]
def strRes (op : BinOp) (a b : ByteArray) : Option Value:=
 match op with
 | .eql=>some (.bool (bsEq a b))
 | .neq=>some (.bool (!(bsEq a b)))
 | .lss=>some (.bool (Op.bytesLess (bs a) (bs b)))
 | .leq=>some (.bool (Op.bytesLess (bs a) (bs b) || bsEq a b))
 | .gtr=>some (.bool (!(Op.bytesLess (bs a) (bs b) || bsEq a b)))
 | .geq=>some (.bool (!(Op.bytesLess (bs a) (bs b))))
 | _=>none
theorem S_str {op : BinOp} {t ty : TypeId} {x y : Operand} {a b : ByteArray} {u : Value} (ho : o.op = .binOp op t x y ty) (hx : tev s x = .v (.string a)) (hy : tev s y = .v (.string b)) (hr : strRes op a b = some u) : TStep P B w0 h s o (.v u) none:=
 S_bin ho (by rw [hx]; rfl) (by rw [hy]; rfl) fun w=>by
  have hg : eqGuard op t x y (.string a) (.string b) = pure ():=by cases op <;> rfl
  rw [hg]
  cases op <;> simp only [strRes,Option.some.injEq] at hr <;> first | (cases hr; done) | (subst hr; simp [binOp,Op.stringOp,bs_eq,bsEq])
theorem S_cat {t ty : TypeId} {x y : Operand} {a b : ByteArray} (ho : o.op = .binOp .add t x y ty) (hx : tev s x = .v (.string a)) (hy : tev s y = .v (.string b)) (hs : a.size + b.size ≤ 9223372036854775807) : TStep P B w0 h s o (.v (.string (a ++ b))) none:=
 S_bin ho (by rw [hx]; rfl) (by rw [hy]; rfl) fun w=>by
  have hg : eqGuard .add t x y (.string a) (.string b) = pure ():=rfl
  rw [hg,binOp_string_add]
  exact run_string_add_sum w a b hs
theorem S_ptr_nil {op : BinOp} {t ty : TypeId} {x y : Operand} {ti : TI} (neg : Bool) (ho : o.op = .binOp op t x y ty) (hop : op = if neg then .neq else .eql) (hx : (∃ i off,tev s x = .ptr i off)∨(∃ ts,tev s x = .eptr ts)) (hy : tev s y = .v (.pointer none)) (ht : tiOf P t = some ti) (hk : ti.k = 7) : TStep P B w0 h s o (.v (.bool neg)) none:=.same fun ρ h' w a H R hh=>by
 have h1:=hh x (by simp [ho,Op.operands])
 have h2:=hh y (by simp [ho,Op.operands])
 rw [hy] at h2
 simp only [Dn] at h2
 have h3 : ∃ ad : Addr,a.eval x = .pointer (some ad):=by
  rcases hx with ⟨i,off,hx⟩ | ⟨ts,hx⟩
  ·rw [hx] at h1
   simp only [Dn] at h1
   obtain ⟨_,g,_,h4⟩:=h1
   exact ⟨_,h4⟩
  ·rw [hx] at h1
   simp only [Dn] at h1
   obtain ⟨ad,vs,h4,_⟩:=h1
   exact ⟨_,h4⟩
 obtain ⟨ad,h3⟩:=h3
 have hu : P.underlying t = some (.pointer (P.pointee t)):=by
  obtain ⟨i,d,hi,hd,rfl⟩:=ti_parts ht
  cases d <;> simp at hk
  simp [Program.pointee,hd]
 refine ⟨.bool neg,?_,by simp only [Dn]⟩
 cases neg
 ·simp only [Bool.false_eq_true,if_false] at hop
  subst hop
  have hg : eqGuard .eql t x y (.pointer (some ad)) (.pointer none) = pure ():=rfl
  simp [execOp,ho,h2,h3,hg,run_eql_pointer_nil w t (some ad) hu]
 ·simp only [if_true] at hop
  subst hop
  have hg : eqGuard .neq t x y (.pointer (some ad)) (.pointer none) = pure ():=rfl
  simp [execOp,ho,h2,h3,hg,run_neq_pointer_nil w t (some ad) hu]
theorem S_load_gl {t : TypeId} {x : Operand} {g off : Nat} {vs : List Value} {v : Value} {ti : TI} (ho : o.op = .load t x) (hx : tev s x = .v (.pointer (some ⟨g,off,none⟩))) (hg : gl g = some vs) (hv : vs[off]? = some v) (ht : tiOf P t = some ti) (ha : ti.ag = false) : TStep P B w0 h s o (ofV v) none:=.same fun ρ h' w a H R hh=>by
 have h1:=hh x (by simp [ho,Op.operands])
 rw [hx] at h1
 simp only [Dn] at h1
 have hc:=(R.glb.at_ g vs hg).2 off v hv
 obtain ⟨u,h8,h9⟩:=packT_run (C:=cxOf B ρ h' w) (P:=P) (ad:=⟨g,off,none⟩) (l:=[ofV v]) (vs:=[v]) (tv:=ofV v) ht (by simp [packT,ha]) (DnL.cons (ofV_dn _ v) .nil) (fun j u hu=>by
  cases j with
  | zero=>simp only [List.getElem?_cons_zero,Option.some.injEq] at hu; subst hu; (have e0 : (⟨g,off,none⟩ : Addr).add 0 = ⟨g,off,none⟩:=rfl); rw [e0]; exact hc
  | succ j=>simp at hu)
 have h8' : (loadVar t ⟨g,off,none⟩).run P w = .ok u w:=h8
 exact ⟨u,by simp [execOp,ho,h1,Instr.loadAt,Instr.sureAddr,h8'],h9⟩
theorem S_index_gl {t : TypeId} {x y : Operand} {g off : Nat} {k : IntKind} {m : Int} {j : Nat} {ti te : TI} (ho : o.op = .indexAddr t x y) (hx : tev s x = .v (.pointer (some ⟨g,off,none⟩))) (hy : tev s y = .v (.int k m)) (ht : tiOf P t = some ti) (hk : ti.k = 2) (he : tiOf P ti.el = some te)
  (hm : m = (j : Int)) (hj : j < ti.len) : TStep P B w0 h s o (.v (.pointer (some ⟨g,off + j * te.n,none⟩))) none:=.same fun ρ h' w a H R hh=>by
 have h1:=hh x (by simp [ho,Op.operands])
 have h2:=hh y (by simp [ho,Op.operands])
 rw [hx] at h1
 rw [hy] at h2
 simp only [Dn] at h1 h2
 subst hm
 refine ⟨.pointer (some ((⟨g,off,none⟩ : Addr).add (j * te.n))),?_,?_⟩
 ·simp [execOp,ho,h2,h1,Instr.indexAt,Instr.sureAddr,asInt_run,run_underlying (ti_array ht hk),ti_size he,hj]
 ·simp only [Dn]
  unfold Addr.add
  split <;> simp_all
theorem S_index_eptr {t : TypeId} {x y : Operand} {cs : List TV} {k : IntKind} {m : Int} {j : Nat} {ti te : TI} (ho : o.op = .indexAddr t x y) (hx : tev s x = .eptr cs) (hy : tev s y = .v (.int k m)) (ht : tiOf P t = some ti) (hk : ti.k = 2) (he : tiOf P ti.el = some te)
  (hm : m = (j : Int)) (hj : j < ti.len) : TStep P B w0 h s o (.eptr (cs.drop (j * te.n))) none:=.same fun ρ h' w a H R hh=>by
 have h1:=hh x (by simp [ho,Op.operands])
 have h2:=hh y (by simp [ho,Op.operands])
 rw [hx] at h1
 rw [hy] at h2
 simp only [Dn] at h1 h2
 obtain ⟨ad,vs,h7,h3,h4,h5,h6⟩:=h1
 subst hm
 refine ⟨.pointer (some (ad.add (j * te.n))),?_,?_⟩
 ·simp [execOp,ho,h2,h7,Instr.indexAt,Instr.sureAddr,asInt_run,run_underlying (ti_array ht hk),ti_size he,hj]
 ·simp only [Dn]
  refine ⟨_,vs.drop (j * te.n),rfl,by rw [addr_block]; exact h3,by rw [addr_block]; exact h4,h5.drop _,fun i u hu=>?_⟩
  rw [addr_add]
  exact h6 _ u (by rw [← hu,List.getElem?_drop])
def ones (cs : List TV) : List (List TV):=cs.map fun x=>[x]
theorem dnll_ones {C : Cx} : ∀ {cs : List TV} {vs : List Value},DnL C cs vs→DnLL C (ones cs) (vs.map fun v=>[v])
 | [],vs,h=>by simp only [DnL] at h; subst h; simp [ones,DnLL]
 | c :: cs,vs,h=>by
  simp only [DnL] at h
  obtain ⟨u,us,rfl,h1,h2⟩:=h
  exact DnLL.cons (DnL.cons h1 DnL.nil) (dnll_ones h2)
theorem flat_ones (vs : List Value) : (vs.map fun v=>[v]).flatten = vs:=by
 induction vs with
 | nil=>rfl
 | cons v vs ih=>simp [ih]
theorem S_slice_eptr {t : TypeId} {x : Operand} {cs : List TV} {ti te : TI} (ho : o.op = .slice t x none none none) (hx : tev s x = .eptr cs) (ht : tiOf P t = some ti) (hk : ti.k = 2) (he : tiOf P ti.el = some te) (hte : te.n = 1) (hl : cs.length = ti.len) (hm : ti.len ≤ maxLen) :
  TStep P B w0 h s o (.sl false (ones cs)) none:=.same fun ρ h' w a H R hh=>by
 have h1:=hh x (by simp [ho,Op.operands])
 rw [hx] at h1
 simp only [Dn] at h1
 obtain ⟨ad,vs,h7,h3,h4,h5,h6⟩:=h1
 have hvl:=h5.len
 have hol : (ones cs).length = ti.len:=by simp [ones,hl]
 refine ⟨.slice (some (if ti.len = 0 then ad else ad.add (0 * te.n))) ti.len ti.len,?_,?_⟩
 ·simp [execOp,ho,h7,Instr.sliceAt,Instr.sureAddr,Instr.sliceBounds,run_underlying (ti_array ht hk),ti_size he]
 ·simp only [Dn]
  have e0 : (if ti.len = 0 then ad else ad.add (0 * te.n)) = ad:=by
   split
   ·rfl
   ·simp [Addr.add]
  rw [e0]
  refine ⟨some ad,ti.len,vs.map fun v=>[v],1,by rw [hol],by rw [hol]; exact Nat.le_refl _,hm,fun h=>(by cases h),fun z hz=>?_,dnll_ones h5,fun ad' ha=>?_⟩
  ·obtain ⟨v,_,rfl⟩:=List.mem_map.1 hz; rfl
  ·injection ha with ha
   subst ha
   refine ⟨fun _=>⟨h3,h4,fun hb=>(by cases hb)⟩,fun j u hu=>h6 j u ?_⟩
   rwa [flat_ones] at hu
def by1 (x : Int) : List TV:=[.v (.int .u8 x)]
theorem dnll_by1 {C : Cx} : ∀ {l : List Int} {css : List (List Value)},DnLL C (l.map by1) css→css.flatten = l.map (fun x=>Value.int .u8 x)
 | [],css,hd=>by simp only [List.map_nil,DnLL] at hd; subst hd; rfl
 | x :: l,css,hd=>by
  simp only [List.map_cons,DnLL] at hd
  obtain ⟨u,us,rfl,h1,h2⟩:=hd
  have h3:=dnll_by1 h2
  simp only [by1,DnL,Dn] at h1
  obtain ⟨v,vs,rfl,rfl,rfl⟩:=h1
  simp [h3]
theorem S_conv_bytes {src dst : TypeId} {x : Operand} {b : Bool} {l : List Int} {t : TV} {ts te td : TI} (ho : o.op = .convert src dst x) (hx : tev s x = t) (ha : argT h t = some (.sl b (l.map by1))) (hs : tiOf P src = some ts) (hk : ts.k = 3) (he : tiOf P ts.el = some te) (hek : te.ik = some .u8) (hd : tiOf P dst = some td) (hdk : td.k = 4) :
  TStep P B w0 h s o (.v (.string (strOfNums l))) none:=.same fun ρ h' w a H R hh=>by
 have h1:=hh x (by simp [ho,Op.operands])
 rw [hx] at h1
 have h2:=argT_dn H R _ _ _ ha h1
 simp only [Dn] at h2
 obtain ⟨A,c,css,sz,e1,h3,h4,h5,h6,h7,h8⟩:=h2
 have hfl:=dnll_by1 h7
 have e4:=ti_string hd hdk
 have e2:=ti_slice hs hk
 have e3:=ti_int he hek
 have hrun : (convert src dst (a.eval x)).run P w = .ok (.string (strOfNums l)) w:=by
  rw [e1]
  cases A with
  | none=>
   have hl : l = []:=by have:=h5 rfl; simpa using this
   subst hl
   have:=run_convert_bytes_nil (P:=P) w src ts.el e2 e3 ((List.map by1 ([] : List Int)).length) c dst e4
   rw [this]; rfl
  | some ad=>
   obtain ⟨g1,g2⟩:=h8 ad rfl
   have hl : (loadCells ad l.length).run P w = .ok (l.map (Value.int .u8)).toArray w:=by
    have:=run_loadCells_list (P:=P) w ad (l.map (Value.int .u8)) (fun j v hj=>g2 j v (by rw [hfl]; exact hj))
    simpa using this
   rw [List.length_map,run_convert_bytes_string w src dst ts.el _ l.length c e2 e3 e4,run_bytesToString w _ l.length c l hl,foldl_push_bytes]
   simp [strOfNums,ByteArray.empty,ByteArray.emptyWithCapacity]
   rfl
 exact ⟨.string (strOfNums l),by simp [execOp,ho,hrun],by simp only [Dn]⟩
def numS (u : ByteArray) : List Int:=(bs u).map fun c=>(c.toNat : Int)
theorem TStep.grow {tv : TV} (hh : ∀ (ρ : Nat→Value) (h' : Nat→LB) (w : World) (a : Act),HS h h'→Rel B w0 ρ h' w→(∀ x ∈ o.op.operands.toList,Dn (cxOf B ρ h' w) (tev s x) (a.eval x)) →
  ∃ u w',(execOp a.eval o).run P w = .ok (.value u) w'∧Below w.heap.size w w'∧Dn (cxOf B ρ h' w') tv u) : TStep P B w0 h s o tv none:=by
 intro ρ h' w a H _ R hx K Q hK
 obtain ⟨u,w',h1,h2,h3⟩:=hh ρ h' w a H R hx
 unfold Oper.wp
 rw [h1]
 exact hK u w' ρ (R.grow h2) (.grow h2) h2 h3
theorem bytesWorld_below (w : World) (e : TypeId) (u : ByteArray) : Below w.heap.size w (Lib.bytesWorld w e u):=
 ⟨rfl,rfl,rfl,by rw [Lib.bytesWorld_size]; omega,fun k hk=>Lib.bytesWorld_at_old w e u k hk⟩
theorem numS_len (u : ByteArray) : (numS u).length = u.size:=by
 unfold numS
 rw [List.length_map]
 exact Array.length_toList
theorem dn_by1 {C : Cx} : ∀ l : List Int,DnLL C (l.map by1) (l.map fun x=>[Value.int .u8 x])
 | []=>by simp [DnLL]
 | x :: l=>DnLL.cons (DnL.cons (by simp [Dn]) DnL.nil) (dn_by1 l)
theorem flat_by1 (l : List Int) : (l.map fun x=>[Value.int .u8 x]).flatten = l.map (Value.int .u8):=by
 induction l with
 | nil=>rfl
 | cons x l ih=>simp [ih]
theorem S_conv_str_by {src dst : TypeId} {x : Operand} {u : ByteArray} {ts td te : TI} (ho : o.op = .convert src dst x) (hx : tev s x = .v (.string u)) (hs : tiOf P src = some ts) (hd : tiOf P dst = some td) (hdk : td.k = 3) (he : tiOf P td.el = some te) (hek : te.ik = some .u8) (hl : u.size ≤ 9223372036854775807) :
  TStep P B w0 h s o (.sl false ((numS u).map by1)) none:=.grow fun ρ h' w a H R hh=>by
 have h1:=hh x (by simp [ho,Op.operands])
 rw [hx] at h1
 simp only [Dn] at h1
 obtain ⟨i,d,hi,hdd,-⟩:=ti_parts hs
 have e2:=ti_slice hd hdk
 have e3:=ti_int he hek
 have hrun:=Lib.run_convert_string_bytes (P:=P) w src dst td.el u hdd e2 e3
 refine ⟨.slice (some ⟨w.heap.size,0,none⟩) u.size (grownCap w u.size 0 td.el),Lib.bytesWorld w td.el u,by simp [execOp,ho,h1,hrun],bytesWorld_below w td.el u,?_⟩
 simp only [Dn]
 have hlen : ((numS u).map by1).length = u.size:=by rw [List.length_map,numS_len]
 refine ⟨some ⟨w.heap.size,0,none⟩,grownCap w u.size 0 td.el,(numS u).map fun x=>[Value.int .u8 x],1,by rw [hlen],by rw [hlen]; exact grownCap_ge w u.size 0 td.el,grownCap_le_maxLen w u.size 0 td.el (by unfold maxLen; omega),fun e=>(by cases e),fun z hz=>?_,dn_by1 _,fun ad ha=>?_⟩
 ·obtain ⟨y,_,rfl⟩:=List.mem_map.1 hz; rfl
 ·injection ha with ha
  subst ha
  refine ⟨fun _=>⟨⟨fun i hi e=>?_,fun i hp=>Nat.lt_irrefl _ (R.ps_lt hp).2.1⟩,by rw [show (cxOf B ρ h' (Lib.bytesWorld w td.el u)).w = Lib.bytesWorld w td.el u from rfl,Lib.bytesWorld_size]; simp,fun hb=>(by cases hb)⟩,fun j x hj=>?_⟩
  ·have:=R.inj i _ hi e
   simp at this
  ·rw [flat_by1] at hj
   have hjl : j < u.size:=by
    have:=(List.getElem?_eq_some_iff.1 hj).1
    rw [List.length_map,numS_len] at this; exact this
   have e1 : (⟨w.heap.size,0,none⟩ : Addr).add j = ⟨w.heap.size,j,none⟩:=by
    simp [Addr.add]
    exact fun h=>h.symm
   rw [e1]
   refine (Lib.bytesWorld_cell w td.el u j hjl).trans ?_
   rw [← hj,List.getElem?_map]
   unfold numS bs
   rw [List.getElem?_map]
   have hj2 : j < u.data.toList.length:=by rw [Array.length_toList]; exact hjl
   rw [List.getElem?_eq_getElem hj2,List.getD_eq_getElem?_getD,List.getElem?_eq_getElem hj2]
   rfl
theorem S_conv_rune {src dst : TypeId} {x : Operand} {k : IntKind} {n : Int} {ts td : TI} (ho : o.op = .convert src dst x) (hx : tev s x = .v (.int k n)) (hs : tiOf P src = some ts) (hd : tiOf P dst = some td) (hk : td.k = 4) :
  TStep P B w0 h s o (.v (.string (Utf8.encode n))) none:=.same fun ρ h' w a H R hh=>by
 have h1:=hh x (by simp [ho,Op.operands])
 rw [hx] at h1
 simp only [Dn] at h1
 obtain ⟨i,d,hi,hd',_⟩:=ti_parts hs
 exact ⟨_,by simp [execOp,ho,h1,convert,run_underlying hd',run_underlying (ti_string hd hk),Conv.intToString]; rfl,by simp [Dn]⟩
def ExtM (P : Program) (f : FuncId) (ts : List TV) (u : Value) : Prop:=∀ (C : Cx) (vals : List Value),DnL C ts vals→(callFunc f vals.toArray).run P C.w = .ok (.value u) C.w
theorem S_call_ext {cl : Call} {fop : Operand} {f : FuncId} {caps ts : List TV} {u : Value} (ho : o.op = .call cl) (hcl : cl.callee = .value fop) (hf : tev s fop = .fn (.func f) caps)
  (ha : argPL h (cl.args.toList.map (tev s) ++ caps) = some ts) (hm : ExtM P f ts u) : TStep P B w0 h s o (.v u) none:=.same fun ρ h' w a H R hx=>by
 have h1:=hx fop (by simp [ho,Op.operands,Call.operands,hcl])
 rw [hf] at h1
 simp only [Dn] at h1
 obtain ⟨cv,h2,h3⟩:=h1
 have h4 : DnL (cxOf B ρ h' w) (cl.args.toList.map (tev s) ++ caps) (cl.args.toList.map a.eval ++ cv):=(eval_list _ fun x hx'=>hx x (by simp [ho,Op.operands,Call.operands,hcl] at hx' ⊢; exact .inr hx')).append h3
 have h5:=argPL_dn H R _ _ _ ha h4
 have h6 : (callFunc f (cl.args.toList.map a.eval ++ cv).toArray).run P w = .ok (.value u) w:=hm (cxAll B ρ h' w) _ h5
 have e1 : (cl.args.map a.eval ++ cv.toArray) = (cl.args.toList.map a.eval ++ cv).toArray:=by
  apply Array.ext'
  simp
 refine ⟨u,?_,by simp only [Dn]⟩
 rw [← e1] at h6
 simpa [execOp,ho,resolve,hcl,h2,Deferred.ofValue,invoke] using h6
def CloneC (P : Program) (f : FuncId) (e : TypeId) (sz : Nat) : Prop:=entB P f = true∧0 < sz∧∀ (A : Option Addr) (m c : Nat) (xs : List Value) (w : World),Sees w none sz A m xs→m ≤ 1000000→(∀ v ∈ xs,v.oneCell' = true) →
 Calls P f #[.slice A m c] w fun e' w'=>∃ A' c',e' = .returned (.slice A' m c')∧w'.ownsRow w.heap.size e sz (.slice A' m c') m xs∧Below w.heap.size w w'
def isZ : TV→Bool
 | .z _ _=>true
 | .win _ _ _=>true
 | _=>false
theorem argP_sl {t : TV} {b : Bool} {els : List (List TV)} (e : argP h t = some (.sl b els)) (hz : isZ t = false) : t = .sl b els∨(t = .nil_∧els = [])∨∃ i e0 sz,t = .row i∧hf h i = .row e0 sz els:=by
 cases t <;> simp only [argP,argT,Option.map_eq_some_iff,Option.some.injEq,reduceCtorEq,and_false,exists_false,TV.sl.injEq] at e
 case sl b' els'=>obtain ⟨rfl,rfl⟩:=e; exact .inl rfl
 case nil_=>exact .inr (.inl ⟨rfl,e.2.symm⟩)
 case row i=>
  split at e
  ·rename_i e0 sz els' hi
   simp only [Option.some.injEq,TV.sl.injEq] at e
   obtain ⟨_,rfl⟩:=e
   exact .inr (.inr ⟨i,e0,sz,rfl,hi⟩)
  ·cases e
 case ptr i off=>
  split at e
  ·simp only [Option.map_eq_some_iff,reduceCtorEq,and_false,exists_false] at e
  ·cases e
 case z i t=>cases hz
 case win i k sz=>cases hz
theorem rel_one {ρ : Nat→Value} {h' : Nat→LB} {w : World} (R : Rel B w0 ρ h' w) : ∀ {ys : List (List TV)} {css : List (List Value)},DnLL (cxOf B ρ h' w) ys css→(∀ c ∈ ys,c.all TV.one = true)→∀ u ∈ css.flatten,u.oneCell' = true
 | [],css,hd,_,u,hu=>by simp only [DnLL] at hd; subst hd; simp at hu
 | t :: l,css,hd,ha,u,hu=>by
  simp only [DnLL] at hd
  obtain ⟨u0,us',rfl,h2,h3⟩:=hd
  rw [List.flatten_cons,List.mem_append] at hu
  rcases hu with hu | hu
  ·exact cells_one R h2 (ha t (by simp)) u hu
  ·exact rel_one R h3 (fun c hc=>ha c (by simp [hc])) u hu
theorem S_clone {cl : Call} {fop : Operand} {f : FuncId} {caps : List TV} {b : Bool} {els : List (List TV)} {e0 : TypeId} {sz : Nat} (ho : o.op = .call cl) (hcl : cl.callee = .value fop) (hf' : tev s fop = .fn (.func f) caps)
  (ha : argPL h (cl.args.toList.map (tev s) ++ caps) = some [.sl b els]) (hm : CloneC P f e0 sz) (hl : ∀ c ∈ els,c.length = sz) (h1 : ∀ c ∈ els,c.all TV.one = true) (hn : els.length ≤ 1000000) (hz : (cl.args.toList.map (tev s) ++ caps).any isZ = false) : TStep P B w0 h s o (.row h.length) (some (.row e0 sz els)):=by
 intro ρ h' w a H hno R hx K Q hK
 have hnone:=hno rfl
 have g1:=hx fop (by simp [ho,Op.operands,Call.operands,hcl])
 rw [hf'] at g1
 simp only [Dn] at g1
 obtain ⟨cv,g2,g3⟩:=g1
 have g4 : DnL (cxOf B ρ h' w) (cl.args.toList.map (tev s) ++ caps) (cl.args.toList.map a.eval ++ cv):=(eval_list _ fun x hx'=>hx x (by simp [ho,Op.operands,Call.operands,hcl] at hx' ⊢; exact .inr hx')).append g3
 obtain ⟨ts,hts⟩ : ∃ ts,cl.args.toList.map (tev s) ++ caps = ts:=⟨_,rfl⟩
 obtain ⟨us,hus⟩ : ∃ us,cl.args.toList.map a.eval ++ cv = us:=⟨_,rfl⟩
 rw [hts] at ha g4 hz
 rw [hus] at g4
 obtain ⟨t,rfl,ht⟩ : ∃ t,ts = [t]∧argP h t = some (.sl b els):=by
  match ts,ha with
  | [],ha=>simp [argPL] at ha
  | t :: r,ha=>
   simp only [argPL] at ha
   split at ha
   ·rename_i t' ts' h2 h3
    simp only [Option.some.injEq,List.cons.injEq] at ha
    obtain ⟨rfl,rfl⟩:=ha
    match r,h3 with
    | [],_=>exact ⟨t,rfl,h2⟩
    | x :: r,h3=>
     simp only [argPL] at h3
     split at h3
     ·simp at h3
     ·cases h3
   ·cases ha
 simp only [DnL] at g4
 obtain ⟨u,_,rfl,g5,rfl⟩:=g4
 obtain ⟨A,c,css,r1,r2,r3,r4⟩ : ∃ A c css,u = .slice A els.length c∧Sees w none sz A els.length css.flatten∧DnLL (cxOf B ρ h' w) els css∧∀ x ∈ css,x.length = sz:=by
  rcases argP_sl ht (by simpa using hz) with rfl | ⟨rfl,rfl⟩ | ⟨i,e1,sz',rfl,hi⟩
  ·obtain ⟨A,c,css,r1,_,_,r2,r3,r4⟩:=dn_sees g5 hl hm.2.1
   exact ⟨A,c,css,r1,r2,r3,r4⟩
  ·simp only [Dn] at g5
   exact ⟨none,0,[],g5,by simpa using Sees.nil w none sz,by simp [DnLL],by simp⟩
  ·simp only [Dn] at g5
   obtain ⟨p1,p2⟩:=g5
   obtain ⟨A,c,css,r1,r2,r3,r4⟩:=R.row i _ _ _ (H.same hi (by simp) p1)
   have r1' : u = .slice A els.length c:=by rw [p2]; exact r1
   rw [r1] at r2
   rcases Nat.eq_zero_or_pos els.length with hy | hy
   ·have hys:=List.eq_nil_of_length_eq_zero hy
    subst hys
    have hcss:=List.eq_nil_of_length_eq_zero r4.len
    subst hcss
    exact ⟨A,c,[],r1',⟨by simp,fun _=>rfl,fun ad _=>⟨fun hn=>by simp at hn,fun j u hu=>by simp at hu⟩⟩,r4,by simp⟩
   ·have hsz : sz' = sz:=by
     obtain ⟨cv,h8,h9⟩:=r4.at_ 0 els[0] (List.getElem?_eq_getElem hy)
     rw [← r3 cv (List.mem_of_getElem? h8),h9.len,hl _ (List.getElem_mem hy)]
    subst hsz
    have hS:=Sees.of_own r2
    exact ⟨A,c,css,r1',⟨hS.1,hS.2.1,fun ad ha=>⟨fun hn=>by obtain ⟨cur,t,fz,hc,_⟩:=(hS.2.2 ad ha).1 hn; exact ⟨cur,t,fz,hc,fun _ h=>by cases h⟩,(hS.2.2 ad ha).2⟩⟩,r4,r3⟩
 have hraw:=hm.2.2 A els.length c css.flatten w r2 hn (rel_one R r3 h1)
 unfold Oper.wp
 rw [call_run ho hcl g2 hm.1]
 unfold Oper.upon
 have e3 : (cl.args.map a.eval ++ cv.toArray) = #[.slice A els.length c]:=by
  apply Array.ext'
  rw [r1] at hus
  simpa using hus
 rw [e3]
 refine hraw.mono ?_
 rintro e' w' ⟨A',c',rfl,ho',hb⟩
 have hov : ∀ g,blkOf (.slice A' els.length c') = some g→w.heap.size ≤ g∧g < w'.heap.size:=fun g hg=>ho'.lt g (by cases A' <;> exact hg)
 have KK : Keeps (cxOf B ρ h' w) (cxOf B (updf ρ h.length (.slice A' els.length c')) (updf h' h.length (.row e0 sz els)) w'):=.add hnone hb hov
 refine hK _ w' (updf ρ h.length (.slice A' els.length c')) (R.add hnone hb hov (fun _ _ e=>by cases e) (fun e' sz' els' e1=>?_)) KK hb ?_
 ·injection e1 with e2 e3 e4
  subst e2 e3 e4
  exact ⟨A',c',css,rfl,own_mono ho' R.size,r4,DnLL.keep KK _ _ r3⟩
 ·simp only [Dn]
  refine ⟨?_,?_⟩
  ·show (updf h' h.length _ h.length).here
   rw [updf_same]; trivial
  ·show _ = updf ρ h.length _ h.length
   rw [updf_same]
end
end Go.Proofs.YtpgfhkbnngjegaaGreatDoor

namespace Go.Proofs.YtpgfhkbnngjegaaGreatDoor
open Go.RowKit
set_option linter.unusedVariables false
set_option linter.unusedSimpArgs false
structure Nl (t : TV) : Prop where
 k : ∀ p,kp p t = t
 f : ∀ j x,fz j x t = t
structure NlL (ts : List TV) : Prop where
 k : ∀ p,kpL p ts = ts
 f : ∀ j x,fzL j x ts = ts
structure NlLL (els : List (List TV)) : Prop where
 k : ∀ p,kpLL p els = els
 f : ∀ j x,fzLL j x els = els
theorem nlv (x : Value) : Nl (.v x):=⟨fun _=>rfl,fun _ _=>rfl⟩
theorem nlnil : Nl .nil_:=⟨fun _=>rfl,fun _ _=>rfl⟩
theorem NlL.nil : NlL []:=⟨fun _=>rfl,fun _ _=>rfl⟩
theorem NlLL.nil : NlLL []:=⟨fun _=>rfl,fun _ _=>rfl⟩
theorem NlL.cons {t : TV} {ts : List TV} (h : Nl t) (h2 : NlL ts) : NlL (t :: ts):=⟨fun p=>by simp only [kpL,h.k,h2.k],fun j x=>by simp only [fzL,h.f,h2.f]⟩
theorem NlLL.cons {t : List TV} {ts : List (List TV)} (h : NlL t) (h2 : NlLL ts) : NlLL (t :: ts):=⟨fun p=>by simp only [kpLL,h.k,h2.k],fun j x=>by simp only [fzLL,h.f,h2.f]⟩
theorem NlL.head {t : TV} {ts : List TV} (h : NlL (t :: ts)) : Nl t:=⟨fun p=>by have:=h.k p; simp only [kpL,List.cons.injEq] at this; exact this.1,fun j x=>by have:=h.f j x; simp only [fzL,List.cons.injEq] at this; exact this.1⟩
theorem NlL.tail {t : TV} {ts : List TV} (h : NlL (t :: ts)) : NlL ts:=⟨fun p=>by have:=h.k p; simp only [kpL,List.cons.injEq] at this; exact this.2,fun j x=>by have:=h.f j x; simp only [fzL,List.cons.injEq] at this; exact this.2⟩
theorem NlLL.head {t : List TV} {ts : List (List TV)} (h : NlLL (t :: ts)) : NlL t:=⟨fun p=>by have:=h.k p; simp only [kpLL,List.cons.injEq] at this; exact this.1,fun j x=>by have:=h.f j x; simp only [fzLL,List.cons.injEq] at this; exact this.1⟩
theorem NlLL.tail {t : List TV} {ts : List (List TV)} (h : NlLL (t :: ts)) : NlLL ts:=⟨fun p=>by have:=h.k p; simp only [kpLL,List.cons.injEq] at this; exact this.2,fun j x=>by have:=h.f j x; simp only [fzLL,List.cons.injEq] at this; exact this.2⟩
theorem NlLL.at_ : ∀ {els : List (List TV)} {j : Nat} {c : List TV},NlLL els→els[j]? = some c→NlL c
 | [],j,c,_,e=>by simp at e
 | t :: ts,0,c,h,e=>by simp only [List.getElem?_cons_zero,Option.some.injEq] at e; subst e; exact h.head
 | t :: ts,j + 1,c,h,e=>by simp only [List.getElem?_cons_succ] at e; exact NlLL.at_ h.tail e
theorem NlLL.of_all : ∀ {els : List (List TV)},(∀ c ∈ els,NlL c)→NlLL els
 | [],_=>.nil
 | t :: ts,h=>.cons (h t (List.mem_cons_self ..)) (NlLL.of_all fun c hc=>h c (List.mem_cons_of_mem _ hc))
theorem NlLL.mem {els : List (List TV)} (h : NlLL els) {c : List TV} (hc : c ∈ els) : NlL c:=by
 obtain ⟨i,hi⟩:=List.getElem?_of_mem hc
 exact h.at_ hi
theorem NlLL.map {α : Type} {f : α→List TV} {l : List α} (h : ∀ x ∈ l,NlL (f x)) : NlLL (l.map f):=.of_all fun c hc=>by
 obtain ⟨x,hx,rfl⟩:=List.mem_map.1 hc
 exact h x hx
theorem NlLL.append {a b : List (List TV)} (h : NlLL a) (h2 : NlLL b) : NlLL (a ++ b):=.of_all fun c hc=>(List.mem_append.1 hc).elim h.mem h2.mem
theorem NlLL.take {a : List (List TV)} (h : NlLL a) (n : Nat) : NlLL (a.take n):=.of_all fun c hc=>h.mem (List.mem_of_mem_take hc)
theorem NlLL.drop {a : List (List TV)} (h : NlLL a) (n : Nat) : NlLL (a.drop n):=.of_all fun c hc=>h.mem (List.mem_of_mem_drop hc)
theorem NlLL.set {a : List (List TV)} (h : NlLL a) (n : Nat) {c : List TV} (h2 : NlL c) : NlLL (a.set n c):=.of_all fun c' hc=>(List.mem_or_eq_of_mem_set hc).elim h.mem (fun e=>e ▸ h2)
theorem NlLL.replicate (n : Nat) {c : List TV} (h2 : NlL c) : NlLL (List.replicate n c):=.of_all fun c' hc=>(List.eq_of_mem_replicate hc) ▸ h2
theorem NlL.mem : ∀ {ts : List TV} {t : TV},NlL ts→t ∈ ts→Nl t
 | [],t,_,hm=>by simp at hm
 | u :: us,t,h,hm=>by
  rcases List.mem_cons.1 hm with rfl | hm
  ·exact h.head
  ·exact NlL.mem h.tail hm
theorem NlL.of_all : ∀ {ts : List TV},(∀ t ∈ ts,Nl t)→NlL ts
 | [],_=>.nil
 | t :: ts,h=>.cons (h t (List.mem_cons_self ..)) (NlL.of_all fun c hc=>h c (List.mem_cons_of_mem _ hc))
theorem NlL.append {a b : List TV} (h : NlL a) (h2 : NlL b) : NlL (a ++ b):=.of_all fun c hc=>(List.mem_append.1 hc).elim h.mem h2.mem
theorem NlL.take {a : List TV} (h : NlL a) (n : Nat) : NlL (a.take n):=.of_all fun c hc=>h.mem (List.mem_of_mem_take hc)
theorem NlL.drop {a : List TV} (h : NlL a) (n : Nat) : NlL (a.drop n):=.of_all fun c hc=>h.mem (List.mem_of_mem_drop hc)
theorem NlL.setsV {a l : List TV} (h : NlL a) (h2 : NlL l) (off : Nat) : NlL (setsV a off l):=(h.take _).append (h2.append (h.drop _))
theorem Nl.agg {ts : List TV} (h : Nl (.agg ts)) : NlL ts:=⟨fun p=>by have:=h.k p; simp only [kp,TV.agg.injEq] at this; exact this,fun j x=>by have:=h.f j x; simp only [fz,TV.agg.injEq] at this; exact this⟩
theorem Nl.tup {ts : List TV} (h : Nl (.tup ts)) : NlL ts:=⟨fun p=>by have:=h.k p; simp only [kp,TV.tup.injEq] at this; exact this,fun j x=>by have:=h.f j x; simp only [fz,TV.tup.injEq] at this; exact this⟩
theorem Nl.sl {b : Bool} {els : List (List TV)} (h : Nl (.sl b els)) : NlLL els:=⟨fun p=>by have:=h.k p; simp only [kp,TV.sl.injEq,true_and] at this; exact this,fun j x=>by have:=h.f j x; simp only [fz,TV.sl.injEq,true_and] at this; exact this⟩
theorem Nl.eptr {ts : List TV} (h : Nl (.eptr ts)) : NlL ts:=⟨fun p=>by have:=h.k p; simp only [kp,TV.eptr.injEq] at this; exact this,fun j x=>by have:=h.f j x; simp only [fz,TV.eptr.injEq] at this; exact this⟩
theorem NlL.agg {ts : List TV} (h : NlL ts) : Nl (.agg ts):=⟨fun p=>by simp only [kp,h.k],fun j x=>by simp only [fz,h.f]⟩
theorem NlL.fn {f : Fn} {ts : List TV} (h : NlL ts) : Nl (.fn f ts):=⟨fun p=>by simp only [kp,h.k],fun j x=>by simp only [fz,h.f]⟩
theorem NlL.eptr {ts : List TV} (h : NlL ts) : Nl (.eptr ts):=⟨fun p=>by simp only [kp,h.k],fun j x=>by simp only [fz,h.f]⟩
theorem NlLL.sl {b : Bool} {els : List (List TV)} (h : NlLL els) : Nl (.sl b els):=⟨fun p=>by simp only [kp,h.k],fun j x=>by simp only [fz,h.f]⟩
theorem nl_ofC (x : Value) : Nl (ofC x):=by
 unfold ofC; split
 ·exact nlnil
 ·exact nlv _
theorem nl_ofV (x : Value) : Nl (ofV x):=by
 unfold ofV; split
 ·exact NlL.agg (.of_all fun t ht=>by obtain ⟨c,_,rfl⟩:=List.mem_map.1 ht; exact nl_ofC c)
 ·exact nlnil
 ·split
  ·exact NlL.fn .nil
  ·exact nlv _
 ·exact nlv _
inductive XV where
 | p (t : TV) (h : Nl t)
 | any
 | row (i : Nat)
 | ptr (i off : Nat)
 | rp (i k sz j : Nat)
 | ag (vs : List XV)
 | tu (vs : List XV)
 | fu (fn : Fn) (vs : List XV)
 | ow (e : TypeId) (sz : Nat) (els : List (List TV)) (h : NlLL els)
 | pin (u : Value) (t : TV) (h : Nl t)
 | z (i : Nat) (t : TV) (h : Nl t)
 | win (i k sz : Nat)
 deriving Inhabited
mutual
def XV.den : XV→TV
 | .p t _=>t
 | .any=>.any
 | .row i=>.row i
 | .ptr i off=>.ptr i off
 | .rp i k sz j=>.ptr i (k * sz + j)
 | .ag vs=>.agg (XV.denL vs)
 | .tu vs=>.tup (XV.denL vs)
 | .fu fn vs=>.fn fn (XV.denL vs)
 | .ow e sz els _=>.osl e sz els
 | .pin u _ _=>.v u
 | .z i t _=>.z i t
 | .win i k sz=>.win i k sz
def XV.denL : List XV→List TV
 | []=>[]
 | v :: vs=>v.den :: XV.denL vs
end
theorem denL_map : ∀ vs : List XV,XV.denL vs = vs.map XV.den
 | []=>rfl
 | v :: vs=>by simp [XV.denL,denL_map vs]
abbrev Env:=List (Nat × XV)
def look : Env→Nat→XV
 | [],_=>.any
 | x :: r,d=>match Nat.beq x.1 d with
  | true=>x.2
  | false=>look r d
def toL (n : Nat) (e : Env) : List TV:=(List.range n).map fun d=>(look e d).den
theorem toL_len (n : Nat) (e : Env) : (toL n e).length = n:=by simp [toL]
theorem look_same (e : Env) (d : Nat) (v : XV) : look ((d,v) :: e) d = v:=by simp [look]
theorem look_ne (e : Env) {d d' : Nat} (v : XV) (h : d ≠ d') : look ((d,v) :: e) d' = look e d':=by
 have : Nat.beq d d' = false:=by
  cases hb : Nat.beq d d' with
  | false=>rfl
  | true=>exact absurd (Nat.eq_of_beq_eq_true hb) h
 simp [look,this]
theorem toL_set {n d : Nat} (e : Env) (v : XV) (h : d < n) : toL n ((d,v) :: e) = (toL n e).set d v.den:=by
 apply List.ext_getElem?
 intro i
 simp only [toL,List.getElem?_map,List.getElem?_set,List.length_map,List.length_range]
 by_cases hi : d = i
 ·subst hi
  simp [look_same,h]
 ·simp only [hi,if_false]
  cases hr : (List.range n)[i]? with
  | none=>rfl
  | some j=>
   obtain ⟨hj,rfl⟩:=List.getElem?_eq_some_iff.1 hr
   simp only [List.getElem_range,Option.map_some,look_ne e v hi]
theorem toL_get {n d : Nat} (e : Env) (h : d < n) : (toL n e).getD d .any = (look e d).den:=by simp [toL,List.getD,h]
theorem toL_get? {n d : Nat} (e : Env) (h : d < n) : (toL n e)[d]? = some (look e d).den:=by simp [toL,h]
def xc1 : Value→XV
 | .int k n=>.p (.v (.int k n)) (nlv _)
 | .bool b=>.p (.v (.bool b)) (nlv _)
 | .string s=>.p (.v (.string s)) (nlv _)
 | .slice none 0 0=>.p .nil_ nlnil
 | x=>.p (ofC x) (nl_ofC x)
theorem xc1_den (x : Value) : (xc1 x).den = ofC x:=by
 unfold xc1; split <;> rfl
def xc : Value→XV
 | .agg cs=>.ag (cs.toList.map xc1)
 | .int k n=>.p (.v (.int k n)) (nlv _)
 | .bool b=>.p (.v (.bool b)) (nlv _)
 | .string s=>.p (.v (.string s)) (nlv _)
 | .slice none 0 0=>.p .nil_ nlnil
 | x=>.p (ofV x) (nl_ofV x)
theorem xc_den (x : Value) : (xc x).den = ofV x:=by
 unfold xc; split
 ·simp only [XV.den,ofV,denL_map,List.map_map]
  congr 1
  exact List.map_congr_left fun c _=>xc1_den c
 all_goals rfl
def xev (n : Nat) (e : Env) : Operand→XV
 | .tmp t=>match Nat.blt t n with
  | true=>look e t
  | false=>.any
 | .const x=>xc x
 | .global g=>.p (.v (.pointer (some ⟨g,0,none⟩))) (nlv _)
 | .func f=>.fu (.func f) []
theorem xev_den (n : Nat) (e : Env) (x : Operand) : (xev n e x).den = tev (toL n e) x:=by
 cases x with
 | tmp t=>
  simp only [xev,tev]
  cases hb : Nat.blt t n with
  | true=>exact (toL_get e (Nat.blt_eq.mp hb)).symm
  | false=>
   have : ¬ t < n:=by
    intro h
    have:=Nat.blt_eq.mpr h
    rw [hb] at this; cases this
   have h2 : (toL n e)[t]? = none:=List.getElem?_eq_none (by rw [toL_len]; exact Nat.le_of_not_lt this)
   simp only [List.getD,h2]
   rfl
 | const x=>exact xc_den x
 | global g=>rfl
 | func f=>rfl
inductive XLB where
 | none
 | cells (t : TypeId) (cs : List XV)
 | row (e : TypeId) (sz : Nat) (els : List (List TV)) (h : NlLL els)
 | ext (x : Ext)
 | rowF (e : TypeId) (sz : Nat) (pre : List (List TV)) (hp : NlLL pre) (cs : List XV) (post : List (List TV)) (hq : NlLL post)
 deriving Inhabited
def XLB.den : XLB→LB
 | .none=>.none
 | .cells t cs=>.cells t (XV.denL cs)
 | .row e sz els _=>.row e sz els
 | .ext x=>.ext x
 | .rowF e sz pre _ cs post _=>.row e sz (pre ++ XV.denL cs :: post)
def hget : List XLB→Nat→XLB
 | [],_=>.none
 | x :: r,i=>match i with
  | 0=>x
  | i + 1=>hget r i
theorem hget_den : ∀ (h : List XLB) (i : Nat),(hget h i).den = hf (h.map XLB.den) i
 | [],i=>rfl
 | x :: r,0=>rfl
 | x :: r,i + 1=>by
  have:=hget_den r i
  simpa [hget,hf] using this
def denG : List (Nat × Env)→List TV
 | []=>[]
 | f :: r=>toL f.1 f.2 ++ denG r
def xst (n : Nat) (e : Env) (h : List XLB) (g : List (Nat × Env)) : St:=⟨toL n e,h.map XLB.den,denG g⟩
def fv (v : XV) (k : XV→Prop) : Prop:=match v with
 | .p t h=>k (.p t h)
 | .any=>k .any
 | .row i=>k (.row i)
 | .ptr i off=>k (.ptr i off)
 | .rp i m sz j=>k (.rp i m sz j)
 | .ag vs=>k (.ag vs)
 | .tu vs=>k (.tu vs)
 | .fu fn vs=>k (.fu fn vs)
 | .ow e sz els h=>k (.ow e sz els h)
 | .pin u t h=>k (.pin u t h)
 | .z i t h=>k (.z i t h)
 | .win i m sz=>k (.win i m sz)
theorem fv_ok {v : XV} {k : XV→Prop} (h : fv v k) : k v:=by
 cases v <;> exact h
def forceE : Env→(Env→Prop)→Prop
 | [],k=>k []
 | (d,v) :: r,k=>fv v fun v=>forceE r fun r'=>k ((d,v) :: r')
theorem forceE_ok : ∀ {e : Env} {k : Env→Prop},forceE e k→k e
 | [],_,h=>h
 | (d,v) :: r,k,h=>forceE_ok (k:=fun r'=>k ((d,v) :: r')) (fv_ok h)
def forceV : List XV→(List XV→Prop)→Prop
 | [],k=>k []
 | x :: r,k=>fv x fun v=>forceV r fun r'=>k (v :: r')
theorem forceV_ok : ∀ {e : List XV} {k : List XV→Prop},forceV e k→k e
 | [],_,h=>h
 | x :: r,k,h=>forceV_ok (k:=fun r'=>k (x :: r')) (fv_ok h)
def forceB (b : XLB) (k : XLB→Prop) : Prop:=match b with
 | .none=>k .none
 | .cells t cs=>forceV cs fun cs'=>k (.cells t cs')
 | .row e sz els h=>k (.row e sz els h)
 | .ext x=>k (.ext x)
 | .rowF e sz pre hp cs post hq=>forceV cs fun cs'=>k (.rowF e sz pre hp cs' post hq)
theorem forceB_ok {b : XLB} {k : XLB→Prop} (h : forceB b k) : k b:=by
 cases b with
 | none=>exact h
 | cells t cs=>exact forceV_ok (k:=fun cs'=>k (.cells t cs')) h
 | row e sz els h'=>exact h
 | ext x=>exact h
 | rowF e sz pre hp cs post hq=>exact forceV_ok (k:=fun cs'=>k (.rowF e sz pre hp cs' post hq)) h
def forceH : List XLB→(List XLB→Prop)→Prop
 | [],k=>k []
 | x :: r,k=>forceB x fun v=>forceH r fun r'=>k (v :: r')
theorem forceH_ok : ∀ {e : List XLB} {k : List XLB→Prop},forceH e k→k e
 | [],_,h=>h
 | x :: r,k,h=>forceH_ok (k:=fun r'=>k (x :: r')) (forceB_ok h)
def forceG : List (Nat × Env)→(List (Nat × Env)→Prop)→Prop
 | [],k=>k []
 | (n,e) :: r,k=>forceE e fun v=>forceG r fun r'=>k ((n,v) :: r')
theorem forceG_ok : ∀ {e : List (Nat × Env)} {k : List (Nat × Env)→Prop},forceG e k→k e
 | [],_,h=>h
 | (n,e) :: r,k,h=>forceG_ok (k:=fun r'=>k ((n,e) :: r')) (forceE_ok h)
def bcase (b : Bool) (p q : Prop) : Prop:=match b with
 | true=>p
 | false=>q
theorem bT {b : Bool} {p q : Prop} (h : b = true) (hp : p) : bcase b p q:=by subst h; exact hp
theorem bF {b : Bool} {p q : Prop} (h : b = false) (hq : q) : bcase b p q:=by subst h; exact hq
theorem bS {b : Bool} {p q : Prop} (hp : b = true→p) (hq : b = false→q) : bcase b p q:=by
 cases b
 ·exact hq rfl
 ·exact hp rfl
theorem bcase_no {b : Bool} {p : Prop} (h : bcase b False p) : b = false∧p:=by
 cases b
 ·exact ⟨rfl,h⟩
 ·exact h.elim
theorem bcase_yes {b : Bool} {p : Prop} (h : bcase b p False) : b = true∧p:=by
 cases b
 ·exact h.elim
 ·exact ⟨rfl,h⟩
def unp : (ts : List TV)→NlL ts→List XV
 | [],_=>[]
 | t :: ts,h=>.p t h.head :: unp ts h.tail
theorem unp_den : ∀ (ts : List TV) (h : NlL ts),XV.denL (unp ts h) = ts
 | [],_=>rfl
 | t :: ts,h=>by simp [unp,XV.denL,XV.den,unp_den ts h.tail]
def unpK : (ts : List TV)→NlL ts→(List XV→Prop)→Prop
 | [],_,k=>k []
 | t :: ts,h,k=>unpK ts h.tail fun vs=>k (.p t h.head :: vs)
theorem unpK_ok : ∀ {ts : List TV} {h : NlL ts} {k : List XV→Prop},unpK ts h k→k (unp ts h)
 | [],_,_,h=>h
 | t :: ts,h,k,hh=>unpK_ok (k:=fun vs=>k (.p t h.head :: vs)) hh
def takeK {α : Type} : Nat→List α→(List α→Prop)→Prop
 | 0,_,k=>k []
 | _ + 1,[],k=>k []
 | n + 1,x :: xs,k=>takeK n xs fun l=>k (x :: l)
theorem takeK_ok {α : Type} : ∀ {n : Nat} {l : List α} {k : List α→Prop},takeK n l k→k (l.take n)
 | 0,_,_,h=>by simpa [takeK] using h
 | _ + 1,[],_,h=>by simpa [takeK] using h
 | n + 1,x :: xs,k,h=>takeK_ok (k:=fun l=>k (x :: l)) h
def dropK {α : Type} : Nat→List α→(List α→Prop)→Prop
 | 0,l,k=>k l
 | _ + 1,[],k=>k []
 | n + 1,_ :: xs,k=>dropK n xs k
theorem dropK_ok {α : Type} : ∀ {n : Nat} {l : List α} {k : List α→Prop},dropK n l k→k (l.drop n)
 | 0,_,_,h=>h
 | _ + 1,[],_,h=>by simpa [dropK] using h
 | n + 1,x :: xs,k,h=>by
  have h' : dropK n xs k:=h
  exact dropK_ok (n:=n) (l:=xs) (k:=k) h'
def appK {α : Type} : List α→List α→(List α→Prop)→Prop
 | [],b,k=>k b
 | x :: xs,b,k=>appK xs b fun l=>k (x :: l)
theorem appK_ok {α : Type} : ∀ {a b : List α} {k : List α→Prop},appK a b k→k (a ++ b)
 | [],_,_,h=>h
 | x :: xs,b,k,h=>appK_ok (k:=fun l=>k (x :: l)) h
def setK {α : Type} : List α→Nat→α→(List α→Prop)→Prop
 | [],_,_,k=>k []
 | _ :: xs,0,y,k=>k (y :: xs)
 | x :: xs,n + 1,y,k=>setK xs n y fun l=>k (x :: l)
theorem setK_ok {α : Type} : ∀ {a : List α} {n : Nat} {y : α} {k : List α→Prop},setK a n y k→k (a.set n y)
 | [],_,_,_,h=>h
 | _ :: xs,0,y,_,h=>h
 | x :: xs,n + 1,y,k,h=>setK_ok (k:=fun l=>k (x :: l)) h
def nums : List Nat:=[0,1,2,3,4,5,6,7,8,9,10,11,12,13,14,15,16,17,18,19,20,21,22,23,24,25,26,27,28,29,30,31,32,33,34,35,36,37,38,39,40,41,42,43,44,45,46,47,48,49,50,51,52,53,54,55,56,57,58,59,60,61,62,63,64,65,66,67,68,69,70,71,72,73,74,75,76,77,78,79,80,81,82,83,84,85,86,87,88,89,90,91,92,93,94,95,96,97,98,99]
def lenG {α : Type} : List α→List Nat→(Nat→Prop)→Prop
 | [],c :: _,k=>k c
 | _ :: l,_ :: cs,k=>lenG l cs k
 | _,[],_=>False
def lenK {α : Type} (l : List α) (k : Nat→Prop) : Prop:=lenG l nums k
theorem lenG_ok {α : Type} : ∀ {l : List α} {s m : Nat} {k : Nat→Prop},lenG l (List.range' s m) k→k (s + l.length)
 | [],s,0,k,h=>h.elim
 | [],s,m + 1,k,h=>h
 | _ :: l,s,0,k,h=>h.elim
 | _ :: l,s,m + 1,k,h=>by
  have:=lenG_ok (l:=l) (s:=s + 1) (m:=m) h
  rw [List.length_cons]
  rwa [show s + (l.length + 1) = s + 1 + l.length by omega]
theorem lenK_ok {α : Type} {l : List α} {k : Nat→Prop} (h : lenK l k) : k l.length:=by
 have e : nums = List.range' 0 100:=by decide
 unfold lenK at h
 rw [e] at h
 have:=lenG_ok h
 rwa [Nat.zero_add] at this
def putsK {α : Type} : List α→Nat→List α→(List α→Prop)→Prop
 | cs,0,l,k=>dropK l.length cs fun r=>appK l r k
 | [],_ + 1,_,_=>False
 | c :: cs,n + 1,l,k=>putsK cs n l fun r=>k (c :: r)
theorem putsK_ok {α : Type} : ∀ {cs : List α} {off : Nat} {l : List α} {k : List α→Prop},putsK cs off l k→k (setsV cs off l)
 | cs,0,l,k,h=>by
  have:=appK_ok (k:=k) (dropK_ok (k:=fun r=>appK l r k) (by simpa [putsK] using h))
  simpa [setsV] using this
 | [],_ + 1,_,_,h=>h.elim
 | c :: cs,n + 1,l,k,h=>by
  have:=putsK_ok (k:=fun r=>k (c :: r)) h
  have e : setsV (c :: cs) (n + 1) l = c :: setsV cs n l:=by
   simp only [setsV,List.take_succ_cons,List.cons_append]
   rw [show n + 1 + l.length = (n + l.length) + 1 by omega,List.drop_succ_cons]
  rw [e]; exact this
theorem denL_setsV (cs : List XV) (off : Nat) (l : List XV) : XV.denL (setsV cs off l) = setsV (XV.denL cs) off (XV.denL l):=by
 simp [denL_map,setsV,List.map_append,List.map_take,List.map_drop]
end Go.Proofs.YtpgfhkbnngjegaaGreatDoor
