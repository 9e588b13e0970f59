/- Steps over trees: new blocks, numbers, slices, literals, calls by contract. Condition: what the program's table says of types. -/
import Derived.Test.YtpgfhkbnngjegaaGreatDoorT3
import Derived.Laws.MakeOwn
import Derived.Laws.Small
namespace Go.Proofs.YtpgfhkbnngjegaaGreatDoor
open Go.RowKit
set_option linter.unusedVariables false
set_option linter.unusedSimpArgs false
def one1 : TV→Bool
 | .sl _ _=>true
 | .eptr _=>true
 | .nil_=>true
 | .v x=>x.oneCell'
 | _=>false
theorem DnZ.one {w : World} {S : Nat→Prop} {B : Nat} {t : TV} {u : Value} (hd : DnZ w S B t u) (ht : one1 t = true) : u.oneCell' = true:=by
 cases t <;> simp only [one1] at ht <;> simp only [DnZ] at hd
 case v x=>rw [hd]; exact ht
 case nil_=>rw [hd]; rfl
 case sl b els=>obtain ⟨A,c,css,sz,h1,_⟩:=hd; rw [h1]; rfl
 case eptr ts=>obtain ⟨ad,vs,h1,_⟩:=hd; rw [h1]; rfl
 all_goals cases ht
def TV.one : TV→Bool
 | .v x=>x.oneCell'
 | .any | .agg _ | .tup _=>false
 | .z _ t=>one1 t
 | _=>true
def cellsT : TV→Option (List TV)
 | .agg ts=>some ts
 | t=>if t.one then some [t] else none
section
variable {P : Program} {B : Nat} {w0 : World} {h : List LB} {s : List TV} {o : Oper} {tv : TV}
theorem Rel.one {ρ : Nat→Value} {h' : Nat→LB} {w : World} (R : Rel B w0 ρ h' w) {t : TV} {u : Value} (hd : Dn (cxOf B ρ h' w) t u) (ht : t.one = true) : u.oneCell' = true:=by
 have key : ∀ i,(h' i).here→(ρ i).oneCell' = true:=fun i hi=>by
  cases hh : h' i with
  | none=>rw [hh] at hi; exact hi.elim
  | ext x=>exact (R.ext i x hh).one
  | cells t cs=>obtain ⟨g,vs,h1,_⟩:=R.blk i _ _ hh; rw [h1]; rfl
  | row e sz els=>obtain ⟨A,c,css,h1,_⟩:=R.row i _ _ _ hh; rw [h1]; rfl
 cases t <;> simp only [TV.one] at ht <;> simp only [Dn] at hd
 case v x=>rw [hd]; exact ht
 case nil_=>rw [hd]; rfl
 case fn f ts=>obtain ⟨vs,h1,_⟩:=hd; rw [h1]; rfl
 case ptr i off=>obtain ⟨_,g,_,h1⟩:=hd; rw [h1]; rfl
 case row i=>rw [hd.2]; exact key i hd.1
 case sl b els=>obtain ⟨A,c,css,sz,h1,_⟩:=hd; rw [h1]; rfl
 case eptr ts=>obtain ⟨ad,vs,h1,_⟩:=hd; rw [h1]; rfl
 case osl e sz els=>obtain ⟨A,c,css,h1,_⟩:=hd; rw [h1]; rfl
 case z i t=>exact DnZ.one hd.2 ht
 case win i k sz=>obtain ⟨_,A,n,c,_,_,A',h1,_⟩:=hd; rw [h1]; rfl
 all_goals cases ht
theorem Value.cells_one {u : Value} (hu : u.oneCell' = true) : u.cells = #[u]:=by cases u <;> first | rfl | (simp [Value.oneCell'] at hu)
theorem Rel.cellsT {ρ : Nat→Value} {h' : Nat→LB} {w : World} (R : Rel B w0 ρ h' w) {t : TV} {u : Value} {cs : List TV} (hd : Dn (cxOf B ρ h' w) t u) (ht : Go.Proofs.YtpgfhkbnngjegaaGreatDoor.cellsT t = some cs) : DnL (cxOf B ρ h' w) cs u.cells.toList:=by
 unfold Go.Proofs.YtpgfhkbnngjegaaGreatDoor.cellsT at ht
 split at ht
 ·injection ht with ht
  subst ht
  simp only [Dn] at hd
  obtain ⟨vs,rfl,h2⟩:=hd
  simpa [Value.cells] using h2
 ·split at ht
  ·injection ht with ht
   subst ht
   rename_i h1
   rw [Value.cells_one (R.one hd h1)]
   exact DnL.cons hd DnL.nil
  ·cases ht
theorem S_box {e : TypeId} {x : Operand} {cs : List TV} (ho : o.op = .box e x) (hc : cellsT (tev s x) = some cs) : TStep P B w0 h s o (.ptr h.length 0) (some (.cells e cs)):=.new (fun ρ h' w a H R hh=>by
 have h1:=R.cellsT (hh x (by simp [ho,Op.operands])) hc
 refine ⟨.pointer (some ⟨w.heap.size,0,none⟩),w.alloc (.cells (a.eval x).cells e),.pointer (some ⟨w.heap.size,0,none⟩),?_,(Below.refl _ _).alloc (Nat.le_refl _) _,?_,?_,?_,?_⟩
 ·simp [execOp,ho,Instr.box,newVar,newRow]
 ·intro g hg
  simp only [blkOf,Option.some.injEq] at hg
  subst hg
  simp
 ·intro t cs' e'
  injection e' with e1 e2
  subst e1 e2
  exact ⟨_,_,rfl,by simpa using Blk.new w e (a.eval x).cells,R.size,h1⟩
 ·intro e sz els e'; cases e'
 ·intro C hr hp
  simp only [Dn]
  exact ⟨hp,w.heap.size,by rw [hr]; rfl,rfl⟩) trivial
theorem zero_run {t : TypeId} {z : Value} (hz : (P.info? t).map (·.zero) = some (some z)) (w : World) : (zeroValue t).run P w = .ok z w:=by
 cases hi : P.info? t with
 | none=>simp [hi] at hz
 | some i=>
  simp [hi] at hz
  simp [zeroValue,typeInfo,hi,hz]
theorem S_alloc {e : TypeId} {z : Value} {cs : List TV} (ho : o.op = .alloc e) (hz : (P.info? e).map (·.zero) = some (some z)) (hc : cellsT (ofV z) = some cs) : TStep P B w0 h s o (.ptr h.length 0) (some (.cells e cs)):=.new (fun ρ h' w a H R hh=>by
 have h1:=R.cellsT (ofV_dn _ z) hc
 refine ⟨.pointer (some ⟨w.heap.size,0,none⟩),w.alloc (.cells z.cells e),.pointer (some ⟨w.heap.size,0,none⟩),?_,(Below.refl _ _).alloc (Nat.le_refl _) _,?_,?_,?_,?_⟩
 ·simp [execOp,ho,Instr.alloc,newVar,newRow,zero_run hz]
 ·intro g hg
  simp only [blkOf,Option.some.injEq] at hg
  subst hg
  simp
 ·intro t cs' e'
  injection e' with e1 e2
  subst e1 e2
  exact ⟨_,_,rfl,by simpa using Blk.new w e z.cells,R.size,h1⟩
 ·intro e sz els e'; cases e'
 ·intro C hr hp
  simp only [Dn]
  exact ⟨hp,w.heap.size,by rw [hr]; rfl,rfl⟩) trivial
def tvVals : List TV→Option (List Value)
 | []=>some []
 | .v x :: ts=>(tvVals ts).map (x :: ·)
 | .nil_ :: ts=>(tvVals ts).map (.slice none 0 0 :: ·)
 | _=>none
def tvVal : TV→Option Value
 | .v x=>some x
 | .nil_=>some (.slice none 0 0)
 | .agg ts=>(tvVals ts).map fun vs=>.agg vs.toArray
 | _=>none
theorem tvVals_dn {C : Cx} : ∀ {ts : List TV} {vs us : List Value},tvVals ts = some vs→DnL C ts us→us = vs
 | [],vs,us,h,hd=>by simp only [tvVals,Option.some.injEq] at h; simp only [DnL] at hd; rw [hd,← h]
 | .v x :: ts,vs,us,h,hd=>by
  simp only [tvVals,Option.map_eq_some_iff] at h
  obtain ⟨vs',h1,rfl⟩:=h
  simp only [DnL,Dn] at hd
  obtain ⟨u,us',rfl,rfl,h3⟩:=hd
  rw [tvVals_dn h1 h3]
 | .nil_ :: ts,vs,us,h,hd=>by
  simp only [tvVals,Option.map_eq_some_iff] at h
  obtain ⟨vs',h1,rfl⟩:=h
  simp only [DnL,Dn] at hd
  obtain ⟨u,us',rfl,rfl,h3⟩:=hd
  rw [tvVals_dn h1 h3]
 | .any :: _,_,_,h,_ | .agg _ :: _,_,_,h,_ | .tup _ :: _,_,_,h,_ | .fn _ _ :: _,_,_,h,_ | .ptr _ _ :: _,_,_,h,_ | .row _ :: _,_,_,h,_ | .sl _ _ :: _,_,_,h,_ | .eptr _ :: _,_,_,h,_ | .osl _ _ _ :: _,_,_,h,_ | .z _ _ :: _,_,_,h,_ | .win _ _ _ :: _,_,_,h,_=>by simp [tvVals] at h
theorem tvVal_dn {C : Cx} {t : TV} {x u : Value} (h : tvVal t = some x) (hd : Dn C t u) : u = x:=by
 cases t <;> simp only [tvVal] at h <;> simp only [Dn] at hd
 case v y=>injection h with h; rw [hd,h]
 case nil_=>injection h with h; rw [hd,h]
 case agg ts=>
  rw [Option.map_eq_some_iff] at h
  obtain ⟨vs,h1,rfl⟩:=h
  obtain ⟨us,rfl,h2⟩:=hd
  rw [tvVals_dn h1 h2]
 all_goals cases h
theorem S_bin {op : BinOp} {t ty : TypeId} {x y : Operand} {ux uy u : Value} (ho : o.op = .binOp op t x y ty) (hx : tvVal (tev s x) = some ux) (hy : tvVal (tev s y) = some uy)
  (hr : ∀ w,(do eqGuard op t x y ux uy; binOp op t ux uy : Sem Value).run P w = .ok u w) : TStep P B w0 h s o (.v u) none:=.same fun ρ h' w a H R hh=>by
 have h1:=tvVal_dn hx (hh x (by simp [ho,Op.operands]))
 have h2:=tvVal_dn hy (hh y (by simp [ho,Op.operands]))
 have h3:=hr w
 exact ⟨u,by simp only [execOp,ho,h1,h2,Sem.run_bind] at h3 ⊢; rw [h3]; rfl,by simp [Dn]⟩
def intRes (op : BinOp) (k : IntKind) (a b : Int) : Option Value:=
 match op with
 | .add=>some (.int k (k.wrap (a + b)))
 | .sub=>some (.int k (k.wrap (a - b)))
 | .mul=>some (.int k (k.wrap (a * b)))
 | .eql=>some (.bool (decide (a = b)))
 | .neq=>some (.bool (!decide (a = b)))
 | .lss=>some (.bool (decide (a < b)))
 | .leq=>some (.bool (decide (a ≤ b)))
 | .gtr=>some (.bool (decide (b < a)))
 | .geq=>some (.bool (decide (b ≤ a)))
 | .and=>some (.int k (k.wrap ((BitVec.ofInt k.bits a &&& BitVec.ofInt k.bits b).toNat : Int)))
 | .or=>some (.int k (k.wrap ((BitVec.ofInt k.bits a ||| BitVec.ofInt k.bits b).toNat : Int)))
 | .xor=>some (.int k (k.wrap ((BitVec.ofInt k.bits a ^^^ BitVec.ofInt k.bits b).toNat : Int)))
 | _=>none
theorem int_run {op : BinOp} {t : TypeId} {x y : Operand} {k : IntKind} {a b : Int} {u : Value} (hu : intRes op k a b = some u) (w : World) : (do eqGuard op t x y (.int k a) (.int k b); binOp op t (.int k a) (.int k b) : Sem Value).run P w = .ok u w:=by
 have hg : eqGuard op t x y (.int k a) (.int k b) = pure ():=by cases op <;> rfl
 rw [hg]
 cases op <;> simp only [intRes,Option.some.injEq] at hu <;> first | (cases hu; done) | (subst hu; simp [binOp,Op.intArith,Op.intCmp,Op.intBits]) | (cases hu)
 all_goals first | rfl | (congr 1; simp; done) | skip
theorem S_int {op : BinOp} {t ty : TypeId} {x y : Operand} {k : IntKind} {a b : Int} {u u' : Value} (ho : o.op = .binOp op t x y ty) (hx : tev s x = .v (.int k a)) (hy : tev s y = .v (.int k b)) (hr : intRes op k a b = some u) (he : u = u') : TStep P B w0 h s o (.v u') none:=by
 subst he
 exact S_bin ho (by rw [hx]; rfl) (by rw [hy]; rfl) (int_run hr)
theorem S_quo {t ty : TypeId} {x y : Operand} {k : IntKind} {a b : Int} (ho : o.op = .binOp .quo t x y ty) (hx : tev s x = .v (.int k a)) (hy : tev s y = .v (.int k b)) (hb : b ≠ 0) : TStep P B w0 h s o (.v (.int k (k.wrap (a.tdiv b)))) none:=
 S_bin ho (by rw [hx]; rfl) (by rw [hy]; rfl) fun w=>by simp [eqGuard,binOp,Op.intDiv,hb]
theorem S_rem {t ty : TypeId} {x y : Operand} {k : IntKind} {a b : Int} (ho : o.op = .binOp .rem t x y ty) (hx : tev s x = .v (.int k a)) (hy : tev s y = .v (.int k b)) (hb : b ≠ 0) : TStep P B w0 h s o (.v (.int k (a.tmod b))) none:=
 S_bin ho (by rw [hx]; rfl) (by rw [hy]; rfl) fun w=>by simp [eqGuard,binOp,Op.intDiv,hb]
theorem S_shl {t ty : TypeId} {x y : Operand} {k k' : IntKind} {a b : Int} {n : Nat} (ho : o.op = .binOp .shl t x y ty) (hx : tev s x = .v (.int k a)) (hy : tev s y = .v (.int k' b)) (hb : b = (n : Int)) : TStep P B w0 h s o (.v (.int k (k.wrap (a * 2 ^ min n k.bits)))) none:=
 S_bin ho (by rw [hx]; rfl) (by rw [hy]; rfl) fun w=>by
  subst hb
  have : ¬ ((n : Int) < 0):=by omega
  simp [eqGuard,binOp,Op.shift,this]
theorem S_shr {t ty : TypeId} {x y : Operand} {k k' : IntKind} {a b : Int} {n : Nat} (ho : o.op = .binOp .shr t x y ty) (hx : tev s x = .v (.int k a)) (hy : tev s y = .v (.int k' b)) (hb : b = (n : Int)) : TStep P B w0 h s o (.v (.int k (a.fdiv (2 ^ min n k.bits)))) none:=
 S_bin ho (by rw [hx]; rfl) (by rw [hy]; rfl) fun w=>by
  subst hb
  have : ¬ ((n : Int) < 0):=by omega
  simp [eqGuard,binOp,Op.shift,this]
theorem S_boolop {op : BinOp} {t ty : TypeId} {x y : Operand} {a b : Bool} {ti : TI} (ho : o.op = .binOp op t x y ty) (hx : tev s x = .v (.bool a)) (hy : tev s y = .v (.bool b)) (hop : op = .eql) (ht : tiOf P t = some ti) (hk : ti.k = 6) : TStep P B w0 h s o (.v (.bool (a == b))) none:=
 S_bin ho (by rw [hx]; rfl) (by rw [hy]; rfl) fun w=>by
  subst hop
  obtain ⟨i,d,hi,hd,rfl⟩:=ti_parts ht
  cases d <;> simp at hk
  have hg : ∀ op,eqGuard op t x y (.bool a) (.bool b) = pure ():=fun op=>by cases op <;> rfl
  simp only [hg,binOp,Sem.run_bind,Sem.run_pure,Result.andThen_ok,run_equal_bool w t a b hd]
theorem S_boolneq {op : BinOp} {t ty : TypeId} {x y : Operand} {a b : Bool} {ti : TI} (ho : o.op = .binOp op t x y ty) (hx : tev s x = .v (.bool a)) (hy : tev s y = .v (.bool b)) (hop : op = .neq) (ht : tiOf P t = some ti) (hk : ti.k = 6) : TStep P B w0 h s o (.v (.bool (!(a == b)))) none:=
 S_bin ho (by rw [hx]; rfl) (by rw [hy]; rfl) fun w=>by
  subst hop
  obtain ⟨i,d,hi,hd,rfl⟩:=ti_parts ht
  cases d <;> simp at hk
  have hg : ∀ op,eqGuard op t x y (.bool a) (.bool b) = pure ():=fun op=>by cases op <;> rfl
  simp only [hg,binOp,Sem.run_bind,Sem.run_pure,Result.andThen_ok,run_equal_bool w t a b hd]
theorem S_not {t : TypeId} {x : Operand} {b : Bool} (ho : o.op = .unOp .not t x) (hx : tev s x = .v (.bool b)) : TStep P B w0 h s o (.v (.bool (!b))) none:=.same fun ρ h' w a H R hh=>by
 have h1:=hh x (by simp [ho,Op.operands])
 rw [hx] at h1
 simp only [Dn] at h1
 exact ⟨_,by simp [execOp,ho,h1,Op.unary]; rfl,by simp [Dn]⟩
theorem S_neg {t : TypeId} {x : Operand} {k : IntKind} {n : Int} (ho : o.op = .unOp .neg t x) (hx : tev s x = .v (.int k n)) : TStep P B w0 h s o (.v (.int k (k.wrap (0 - n)))) none:=.same fun ρ h' w a H R hh=>by
 have h1:=hh x (by simp [ho,Op.operands])
 rw [hx] at h1
 simp only [Dn] at h1
 exact ⟨_,by simp [execOp,ho,h1,Op.unary,Op.intArith]; rfl,by simp [Dn]⟩
theorem S_conv_int {src dst : TypeId} {x : Operand} {k k' : IntKind} {n : Int} {ts td : TI} {u' : Value} (ho : o.op = .convert src dst x) (hx : tev s x = .v (.int k n)) (hs : tiOf P src = some ts) (hd : tiOf P dst = some td) (hk : td.ik = some k') (he : Value.int k' (k'.wrap n) = u') :
  TStep P B w0 h s o (.v u') none:=.same fun ρ h' w a H R hh=>by
 have h1:=hh x (by simp [ho,Op.operands])
 rw [hx] at h1
 simp only [Dn] at h1
 obtain ⟨i,d,hi,hd',_⟩:=ti_parts hs
 subst he
 exact ⟨_,by simp [execOp,ho,h1,convert,run_underlying hd',run_underlying (ti_int hd hk),Conv.intToInt]; rfl,by simp [Dn]⟩
theorem S_conv_str {src dst : TypeId} {x : Operand} {u : ByteArray} {ts td : TI} (ho : o.op = .convert src dst x) (hx : tev s x = .v (.string u)) (hs : tiOf P src = some ts) (hd : tiOf P dst = some td) (hk : td.k = 4) :
  TStep P B w0 h s o (.v (.string u)) none:=.same fun ρ h' w a H R hh=>by
 have h1:=hh x (by simp [ho,Op.operands])
 rw [hx] at h1
 simp only [Dn] at h1
 obtain ⟨i,d,hi,hd',_⟩:=ti_parts hs
 exact ⟨_,by simp [execOp,ho,h1,convert,run_underlying hd',run_underlying (ti_string hd hk)]; rfl,by simp [Dn]⟩
theorem len_run {t r : TypeId} {ti : TI} (ht : tiOf P t = some ti) (hk : ti.k = 3) (A : Option Addr) (n c : Nat) (w : World) : (Builtin.len_ #[t] r #[.slice A n c]).run P w = .ok (goInt n) w:=by
 simp [Builtin.len_,run_underlying (ti_slice ht hk)]
theorem S_len {t : TypeId} {x : Operand} {n : Nat} {ti : TI} {cl : Call} (ho : o.op = .call cl) (hc : cl = { callee:=.builtin .len,args:=#[x],argTypes:=#[t] }) (ht : tiOf P t = some ti) (hk : ti.k = 3)
  (hx : (∃ b els,tev s x = .sl b els∧els.length = n)∨(∃ i e sz els,tev s x = .row i∧hf h i = .row e sz els∧els.length = n)∨(tev s x = .nil_∧n = 0)) : TStep P B w0 h s o (.v (.int .i64 n)) none:=.same fun ρ h' w a H R hh=>by
 subst hc
 have h1:=hh x (by simp [ho,Op.operands,Call.operands])
 have : ∃ A c,a.eval x = .slice A n c:=by
  rcases hx with ⟨b,els,hx,rfl⟩ | ⟨i,e,sz,els,hx,hi,rfl⟩ | ⟨hx,rfl⟩
  ·rw [hx] at h1
   simp only [Dn] at h1
   obtain ⟨A,c,css,sz,r1,_⟩:=h1
   exact ⟨A,c,r1⟩
  ·rw [hx] at h1
   simp only [Dn] at h1
   obtain ⟨A,c,css,r1,_⟩:=R.row i _ _ _ (H.same hi (by simp) h1.1)
   exact ⟨A,c,h1.2.trans r1⟩
  ·rw [hx] at h1
   simp only [Dn] at h1
   exact ⟨none,0,h1⟩
 obtain ⟨A,c,hA⟩:=this
 exact ⟨goInt n,by simp [execOp,ho,resolve,invoke,builtin,hA,len_run ht hk],by simp [Dn,goInt]⟩
theorem S_len_str {t : TypeId} {x : Operand} {u : ByteArray} {ti : TI} {cl : Call} (ho : o.op = .call cl) (hc : cl = { callee:=.builtin .len,args:=#[x],argTypes:=#[t] }) (ht : tiOf P t = some ti) (hk : ti.k = 4) (hx : tev s x = .v (.string u)) :
  TStep P B w0 h s o (.v (.int .i64 u.size)) none:=.same fun ρ h' w a H R hh=>by
 subst hc
 have h1:=hh x (by simp [ho,Op.operands,Call.operands])
 rw [hx] at h1
 simp only [Dn] at h1
 exact ⟨goInt u.size,by simp [execOp,ho,resolve,invoke,builtin,h1,Builtin.len_,run_underlying (ti_string ht hk)],by simp [Dn,goInt]⟩
theorem S_len_arr {t : TypeId} {x : Operand} {ti : TI} {cl : Call} (ho : o.op = .call cl) (hc : cl = { callee:=.builtin .len,args:=#[x],argTypes:=#[t] }) (ht : tiOf P t = some ti) (hk : ti.k = 2) :
  TStep P B w0 h s o (.v (.int .i64 ti.len)) none:=.same fun ρ h' w a H R hh=>by
 subst hc
 exact ⟨goInt ti.len,by simp [execOp,ho,resolve,invoke,builtin,Builtin.len_,run_underlying (ti_array ht hk)],by simp [Dn,goInt]⟩
theorem S_min {t t2 r : TypeId} {x y : Operand} {k : IntKind} {a b : Int} {cl : Call} (ho : o.op = .call cl) (hc : cl = { callee:=.builtin .min,args:=#[x,y],argTypes:=#[t,t2] }) (hx : tev s x = .v (.int k a)) (hy : tev s y = .v (.int k b)) {u : Value} (hu : Value.int k (min a b) = u) : TStep P B w0 h s o (.v u) none:=.same fun ρ h' w a' H R hh=>by
 subst hc
 have h1:=hh x (by simp [ho,Op.operands,Call.operands])
 have h2:=hh y (by simp [ho,Op.operands,Call.operands])
 rw [hx] at h1
 rw [hy] at h2
 simp only [Dn] at h1 h2
 have e : (if b < a then b else a) = min a b:=by omega
 subst hu
 exact ⟨.int k (min a b),by simp [execOp,ho,resolve,invoke,builtin,h1,h2,Builtin.min_,Builtin.min2,e],by simp [Dn]⟩
theorem S_max {t t2 r : TypeId} {x y : Operand} {k : IntKind} {a b : Int} {cl : Call} (ho : o.op = .call cl) (hc : cl = { callee:=.builtin .max,args:=#[x,y],argTypes:=#[t,t2] }) (hx : tev s x = .v (.int k a)) (hy : tev s y = .v (.int k b)) {u : Value} (hu : Value.int k (max a b) = u) : TStep P B w0 h s o (.v u) none:=.same fun ρ h' w a' H R hh=>by
 subst hc
 have h1:=hh x (by simp [ho,Op.operands,Call.operands])
 have h2:=hh y (by simp [ho,Op.operands,Call.operands])
 rw [hx] at h1
 rw [hy] at h2
 simp only [Dn] at h1 h2
 have e : (if a < b then b else a) = max a b:=by omega
 subst hu
 exact ⟨.int k (max a b),by simp [execOp,ho,resolve,invoke,builtin,h1,h2,Builtin.max_,Builtin.max2,e],by simp [Dn]⟩
def Bnd (s : List TV) (lo : Option Operand) (l d : Nat) : Prop:=match lo with | none=>l = d | some x=>∃ k,tev s x = .v (.int k (l : Int))
theorem S_slice_sl {t : TypeId} {x : Operand} {lo hi : Option Operand} {b : Bool} {els : List (List TV)} {l m : Nat} {ti te : TI} (ho : o.op = .slice t x lo hi none) (hx : tev s x = .sl b els) (ht : tiOf P t = some ti) (hk : ti.k = 3) (he : tiOf P ti.el = some te)
  (hl : Bnd s lo l 0) (hm : Bnd s hi m els.length) (hlm : l ≤ m) (hme : m ≤ els.length) (hsz : ∀ c ∈ els,c.length = te.n) : TStep P B w0 h s o (.sl b ((els.take m).drop l)) none:=.same fun ρ h' w a H R hh=>by
 have h1:=hh x (by simp [ho,Op.operands])
 rw [hx] at h1
 simp only [Dn] at h1
 obtain ⟨A,cap,css,sz,r1,r2,r3,r4,r5,r6,r7⟩:=h1
 have elo : ∀ y,lo = some y→∃ k,a.eval y = .int k (l : Int):=fun y hy=>by
  subst hy
  obtain ⟨k,hk⟩:=hl
  have:=hh y (by simp [ho,Op.operands])
  rw [hk] at this
  simp only [Dn] at this
  exact ⟨k,this⟩
 have ehi : ∀ y,hi = some y→∃ k,a.eval y = .int k (m : Int):=fun y hy=>by
  subst hy
  obtain ⟨k,hk⟩:=hm
  have:=hh y (by simp [ho,Op.operands])
  rw [hk] at this
  simp only [Dn] at this
  exact ⟨k,this⟩
 have hb : (Instr.sliceBounds true els.length cap (lo.map a.eval) (hi.map a.eval) none).run P w = .ok (l,m,cap) w:=by
  rcases lo with _ | y <;> rcases hi with _ | z
  ·simp only [Bnd] at hl hm
   subst hl hm
   simp [Instr.sliceBounds]
  ·obtain ⟨k,hk⟩:=ehi z rfl
   simp only [Bnd] at hl
   subst hl
   have : m ≤ cap:=by omega
   simp [Instr.sliceBounds,Instr.sliceBound,hk,asInt_run,this]
  ·obtain ⟨k,hk⟩:=elo y rfl
   simp only [Bnd] at hm
   subst hm
   simp [Instr.sliceBounds,Instr.sliceBound,hk,asInt_run,hlm]
  ·obtain ⟨k,hk⟩:=elo y rfl
   obtain ⟨k',hk'⟩:=ehi z rfl
   have : m ≤ cap:=by omega
   simp [Instr.sliceBounds,Instr.sliceBound,hk,hk',asInt_run,hlm,this]
 refine ⟨.slice (if cap = l then A else A.map (·.add (l * te.n))) (m - l) (cap - l),?_,?_⟩
 ·simp [execOp,ho,r1,Instr.sliceAt,Instr.slice,run_underlying (ti_slice ht hk),hb,ti_size he]
 ·have hlen : ((els.take m).drop l).length = m - l:=by simp; omega
  simp only [Dn]
  rw [hlen]
  refine ⟨_,_,(css.take m).drop l,sz,rfl,by omega,by omega,fun ha=>?_,fun y hy=>r5 y (List.mem_of_mem_take (List.mem_of_mem_drop hy)),(r6.take m).drop l,fun ad had=>?_⟩
  ·have : A = none:=by
    split at ha
    ·exact ha
    ·simpa using ha
   rw [r4 this]
   simp
  ·rcases Nat.eq_zero_or_pos (m - l) with h0 | h0
   ·refine ⟨fun hne=>absurd (List.eq_nil_of_length_eq_zero (by omega)) hne,fun j u hu=>?_⟩
    have h4 : (css.take m).drop l = []:=List.eq_nil_of_length_eq_zero (by simp; omega)
    rw [h4] at hu
    simp at hu
   ·have hne : els ≠ []:=by rintro rfl; simp at hme; omega
    have hcl : ¬ cap = l:=by omega
    rw [if_neg hcl] at had
    rcases A with _ | a0
    ·exact absurd (r4 rfl) hne
    ·simp only [Option.map_some,Option.some.injEq] at had
     subst had
     obtain ⟨r8,r9⟩:=r7 a0 rfl
     obtain ⟨r10,r11,r12⟩:=r8 hne
     refine ⟨fun _=>⟨by rw [addr_block]; exact r10,by rw [addr_block]; exact r11,by rw [addr_block]; exact r12⟩,fun j u hu=>?_⟩
     obtain ⟨c0,hc0⟩ : ∃ c0,els[0]? = some c0:=⟨els[0]'(by omega),List.getElem?_eq_getElem _⟩
     obtain ⟨v0,hv0,hd0⟩:=r6.at_ 0 c0 hc0
     have hszn : sz = te.n:=by rw [← r5 v0 (List.mem_of_getElem? hv0),hd0.len,hsz c0 (List.mem_of_getElem? hc0)]
     rw [addr_add]
     refine r9 _ u ?_
     have hflat : ∀ (css : List (List Value)) (l : Nat),(∀ x ∈ css,x.length = sz)→l ≤ css.length→(css.drop l).flatten = css.flatten.drop (l * sz):=by
      intro css l
      induction l generalizing css with
      | zero=>simp
      | succ l ih=>
       intro h1 h2
       cases css with
       | nil=>simp at h2
       | cons x css=>
        rw [List.drop_succ_cons,ih css (fun y hy=>h1 y (by simp [hy])) (by simpa using h2),List.flatten_cons,Nat.add_mul,Nat.one_mul,Nat.add_comm (l * sz) sz,← List.drop_drop,List.drop_left' (h1 x (by simp))]
     have hpre : ∀ (css : List (List Value)) (m : Nat) (j : Nat) (u : Value),(css.take m).flatten[j]? = some u→css.flatten[j]? = some u:=by
      intro css m j u hu
      rw [show css.flatten = (css.take m).flatten ++ (css.drop m).flatten by rw [← List.flatten_append,List.take_append_drop]]
      rw [List.getElem?_append_left (List.getElem?_eq_some_iff.1 hu).1]
      exact hu
     have hlcss:=r6.len
     rw [hflat _ _ (fun y hy=>r5 y (List.mem_of_mem_take hy)) (by simp; omega),List.getElem?_drop,hszn] at hu
     exact hpre _ _ _ _ hu
theorem S_makeFunc {f : Fn} {cs : Array Operand} (ho : o.op = .makeFunc f #[] cs) : TStep P B w0 h s o (.fn f (cs.toList.map (tev s))) none:=.same fun ρ h' w a H R hh=>by
 refine ⟨.func f #[] (cs.map a.eval),by simp [execOp,ho,Instr.makeFunc],?_⟩
 simp only [Dn]
 refine ⟨cs.toList.map a.eval,by rw [← Array.toList_map],?_⟩
 have : ∀ l : List Operand,(∀ x ∈ l,Dn (cxOf B ρ h' w) (tev s x) (a.eval x))→DnL (cxOf B ρ h' w) (l.map (tev s)) (l.map a.eval):=by
  intro l
  induction l with
  | nil=>intro _; exact DnL.nil
  | cons x l ih=>intro hl; exact DnL.cons (hl x (by simp)) (ih fun y hy=>hl y (by simp [hy]))
 exact this _ fun x hx=>hh x (by simp [ho,Op.operands] at hx ⊢; exact hx)
theorem S_nilCheck {x : Operand} (ho : o.op = .nilCheck x) (hx : (∃ i off,tev s x = .ptr i off)∨(∃ ts,tev s x = .eptr ts)) : TStep P B w0 h s o (tev s x) none:=.same fun ρ h' w a H R hh=>by
 have h1:=hh x (by simp [ho,Op.operands])
 refine ⟨a.eval x,?_,h1⟩
 have : ∃ ad,a.eval x = .pointer (some ad):=by
  rcases hx with ⟨i,off,hx⟩ | ⟨ts,hx⟩
  ·rw [hx] at h1
   simp only [Dn] at h1
   obtain ⟨_,g,_,h2⟩:=h1
   exact ⟨_,h2⟩
  ·rw [hx] at h1
   simp only [Dn] at h1
   obtain ⟨ad,vs,h2,_⟩:=h1
   exact ⟨_,h2⟩
 obtain ⟨ad,had⟩:=this
 simp [execOp,ho,had]
theorem S_index_str {t : TypeId} {x y : Operand} {u : ByteArray} {k : IntKind} {j : Nat} {c : UInt8} {ti : TI} (ho : o.op = .index t x y) (hx : tev s x = .v (.string u)) (hy : tev s y = .v (.int k (j : Int))) (ht : tiOf P t = some ti) (hk : ti.k = 4) (hj : u[j]? = some c) :
  TStep P B w0 h s o (.v (.int .u8 c.toNat)) none:=.same fun ρ h' w a H R hh=>by
 have h1:=hh x (by simp [ho,Op.operands])
 have h2:=hh y (by simp [ho,Op.operands])
 rw [hx] at h1
 rw [hy] at h2
 simp only [Dn] at h1 h2
 exact ⟨.int .u8 c.toNat,by simp [execOp,ho,h1,h2,Instr.index,asInt_run,run_underlying (ti_string ht hk),hj],by simp [Dn]⟩
theorem S_slice_str {t : TypeId} {x : Operand} {lo hi : Option Operand} {u : ByteArray} {l m : Nat} {ti : TI} (ho : o.op = .slice t x lo hi none) (hx : tev s x = .v (.string u)) (ht : tiOf P t = some ti) (hk : ti.k = 4)
  (hl : Bnd s lo l 0) (hm : Bnd s hi m u.size) (hlm : l ≤ m) (hme : m ≤ u.size) : TStep P B w0 h s o (.v (.string (u.extract l m))) none:=.same fun ρ h' w a H R hh=>by
 have h1:=hh x (by simp [ho,Op.operands])
 rw [hx] at h1
 simp only [Dn] at h1
 have elo : ∀ y,lo = some y→∃ k,a.eval y = .int k (l : Int):=fun y hy=>by
  subst hy
  obtain ⟨k,hk⟩:=hl
  have:=hh y (by simp [ho,Op.operands])
  rw [hk] at this
  simp only [Dn] at this
  exact ⟨k,this⟩
 have ehi : ∀ y,hi = some y→∃ k,a.eval y = .int k (m : Int):=fun y hy=>by
  subst hy
  obtain ⟨k,hk⟩:=hm
  have:=hh y (by simp [ho,Op.operands])
  rw [hk] at this
  simp only [Dn] at this
  exact ⟨k,this⟩
 have hb : (Instr.sliceBounds false u.size u.size (lo.map a.eval) (hi.map a.eval) none).run P w = .ok (l,m,u.size) w:=by
  rcases lo with _ | y <;> rcases hi with _ | z
  ·simp only [Bnd] at hl hm
   subst hl hm
   simp [Instr.sliceBounds]
  ·obtain ⟨k,hk⟩:=ehi z rfl
   simp only [Bnd] at hl
   subst hl
   simp [Instr.sliceBounds,Instr.sliceBound,hk,asInt_run,hme]
  ·obtain ⟨k,hk⟩:=elo y rfl
   simp only [Bnd] at hm
   subst hm
   simp [Instr.sliceBounds,Instr.sliceBound,hk,asInt_run,hlm]
  ·obtain ⟨k,hk⟩:=elo y rfl
   obtain ⟨k',hk'⟩:=ehi z rfl
   simp [Instr.sliceBounds,Instr.sliceBound,hk,hk',asInt_run,hlm,hme]
 exact ⟨.string (u.extract l m),by simp [execOp,ho,h1,Instr.sliceAt,Instr.slice,run_underlying (ti_string ht hk),hb],by simp [Dn]⟩
end
end Go.Proofs.YtpgfhkbnngjegaaGreatDoor
