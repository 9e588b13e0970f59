/- More operations over trees: strings, package-level tables, bytes as strings. Condition: what the program's table says of types. -/
import Derived.Test.YtpckkajodpiiaaaT16
import Derived.Laws.Strings
import Derived.Laws.Cover1
import Derived.Laws.Concat
import Derived.Laws.BytesArg
import Derived.Laws.Pointers
namespace Go.Proofs.Ytpckkajodpiiaaa
open Go.RowKit
set_option linter.unusedVariables false
set_option linter.unusedSimpArgs false

section
variable {P : Program} {B : Nat} {w0 : World} {h : List LB} {s : List TV} {o : Oper}
/-- A string's bytes. -/
def bs (u : ByteArray) : List UInt8 := u.data.toList
theorem bs_eq (u : ByteArray) : u.toList = bs u := ByteArray.toList_eq ..
def bsEq (a b : ByteArray) : Bool := bs a == bs b
theorem bsEq_t (a b : ByteArray) : (bsEq a b = true) = (bs a = bs b) := by simp [bsEq]
theorem bsEq_f (a b : ByteArray) : (bsEq a b = false) = ¬ (bs a = bs b) := by simp [bsEq]
/-- What an operation on two strings yields. -/
def strRes (op : BinOp) (a b : ByteArray) : Option Value :=
  match op with
  | .eql => some (.bool (bsEq a b))
  | .neq => some (.bool (!(bsEq a b)))
  | .lss => some (.bool (Op.bytesLess (bs a) (bs b)))
  | .leq => some (.bool (Op.bytesLess (bs a) (bs b) || bsEq a b))
  | .gtr => some (.bool (!(Op.bytesLess (bs a) (bs b) || bsEq a b)))
  | .geq => some (.bool (!(Op.bytesLess (bs a) (bs b))))
  | _ => none
theorem S_str {op : BinOp} {t ty : TypeId} {x y : Operand} {a b : ByteArray} {u : Value} (ho : o.op = .binOp op t x y ty) (hx : tev s x = .v (.string a)) (hy : tev s y = .v (.string b)) (hr : strRes op a b = some u) : TStep P B w0 h s o (.v u) none :=
  S_bin ho (by rw [hx]; rfl) (by rw [hy]; rfl) fun w => by
    have hg : eqGuard op t x y (.string a) (.string b) = pure () := by cases op <;> rfl
    rw [hg]
    cases op <;> simp only [strRes, Option.some.injEq] at hr <;> first | (cases hr; done) | (subst hr; simp [binOp, Op.stringOp, bs_eq, bsEq])
theorem S_cat {t ty : TypeId} {x y : Operand} {a b : ByteArray} (ho : o.op = .binOp .add t x y ty) (hx : tev s x = .v (.string a)) (hy : tev s y = .v (.string b)) (hs : a.size + b.size ≤ 9223372036854775807) : TStep P B w0 h s o (.v (.string (a ++ b))) none :=
  S_bin ho (by rw [hx]; rfl) (by rw [hy]; rfl) fun w => by
    have hg : eqGuard .add t x y (.string a) (.string b) = pure () := rfl
    rw [hg, binOp_string_add]
    exact run_string_add_sum w a b hs
/-- A pointer that is not nil beside nil. -/
theorem S_ptr_nil {op : BinOp} {t ty : TypeId} {x y : Operand} {ti : TI} (neg : Bool) (ho : o.op = .binOp op t x y ty) (hop : op = if neg then .neq else .eql) (hx : (∃ i off, tev s x = .ptr i off) ∨ (∃ ts, tev s x = .eptr ts)) (hy : tev s y = .v (.pointer none)) (ht : tiOf P t = some ti) (hk : ti.k = 7) : TStep P B w0 h s o (.v (.bool neg)) none := .same fun ρ h' w a H R hh => by
  have h1 := hh x (by simp [ho, Op.operands])
  have h2 := hh y (by simp [ho, Op.operands])
  rw [hy] at h2
  simp only [Dn] at h2
  have h3 : ∃ ad : Addr, a.eval x = .pointer (some ad) := by
    rcases hx with ⟨i, off, hx⟩ | ⟨ts, hx⟩
    · rw [hx] at h1
      simp only [Dn] at h1
      obtain ⟨_, g, _, h4⟩ := h1
      exact ⟨_, h4⟩
    · rw [hx] at h1
      simp only [Dn] at h1
      obtain ⟨ad, vs, h4, _⟩ := h1
      exact ⟨_, h4⟩
  obtain ⟨ad, h3⟩ := h3
  have hu : P.underlying t = some (.pointer (P.pointee t)) := by
    obtain ⟨i, d, hi, hd, rfl⟩ := ti_parts ht
    cases d <;> simp at hk
    simp [Program.pointee, hd]
  refine ⟨.bool neg, ?_, by simp only [Dn]⟩
  cases neg
  · simp only [Bool.false_eq_true, if_false] at hop
    subst hop
    have hg : eqGuard .eql t x y (.pointer (some ad)) (.pointer none) = pure () := rfl
    simp [execOp, ho, h2, h3, hg, run_eql_pointer_nil w t (some ad) hu]
  · simp only [if_true] at hop
    subst hop
    have hg : eqGuard .neq t x y (.pointer (some ad)) (.pointer none) = pure () := rfl
    simp [execOp, ho, h2, h3, hg, run_neq_pointer_nil w t (some ad) hu]
/-- What a package-level table holds at a place. -/
theorem S_load_gl {t : TypeId} {x : Operand} {g off : Nat} {vs : List Value} {v : Value} {ti : TI} (ho : o.op = .load t x) (hx : tev s x = .v (.pointer (some ⟨g, off, none⟩))) (hg : gl g = some vs) (hv : vs[off]? = some v) (ht : tiOf P t = some ti) (ha : ti.ag = false) : TStep P B w0 h s o (ofV v) none := .same fun ρ h' w a H R hh => by
  have h1 := hh x (by simp [ho, Op.operands])
  rw [hx] at h1
  simp only [Dn] at h1
  have hc := (R.glb.at_ g vs hg).2 off v hv
  obtain ⟨u, h8, h9⟩ := packT_run (C := cxOf B ρ h' w) (P := P) (ad := ⟨g, off, none⟩) (l := [ofV v]) (vs := [v]) (tv := ofV v) ht (by simp [packT, ha]) (DnL.cons (ofV_dn _ v) .nil) (fun j u hu => by
    cases j with
    | zero => simp only [List.getElem?_cons_zero, Option.some.injEq] at hu; subst hu; (have e0 : (⟨g, off, none⟩ : Addr).add 0 = ⟨g, off, none⟩ := rfl); rw [e0]; exact hc
    | succ j => simp at hu)
  have h8' : (loadVar t ⟨g, off, none⟩).run P w = .ok u w := h8
  exact ⟨u, by simp [execOp, ho, h1, Instr.loadAt, Instr.sureAddr, h8'], h9⟩
theorem S_index_gl {t : TypeId} {x y : Operand} {g off : Nat} {k : IntKind} {m : Int} {j : Nat} {ti te : TI} (ho : o.op = .indexAddr t x y) (hx : tev s x = .v (.pointer (some ⟨g, off, none⟩))) (hy : tev s y = .v (.int k m)) (ht : tiOf P t = some ti) (hk : ti.k = 2) (he : tiOf P ti.el = some te)
    (hm : m = (j : Int)) (hj : j < ti.len) : TStep P B w0 h s o (.v (.pointer (some ⟨g, off + j * te.n, none⟩))) none := .same fun ρ h' w a H R hh => by
  have h1 := hh x (by simp [ho, Op.operands])
  have h2 := hh y (by simp [ho, Op.operands])
  rw [hx] at h1
  rw [hy] at h2
  simp only [Dn] at h1 h2
  subst hm
  refine ⟨.pointer (some ((⟨g, off, none⟩ : Addr).add (j * te.n))), ?_, ?_⟩
  · simp [execOp, ho, h2, h1, Instr.indexAt, Instr.sureAddr, asInt_run, run_underlying (ti_array ht hk), ti_size he, hj]
  · simp only [Dn]
    unfold Addr.add
    split <;> simp_all
/-- A byte's cell. -/
def by1 (x : Int) : List TV := [.v (.int .u8 x)]
theorem dnll_by1 {C : Cx} : ∀ {l : List Int} {css : List (List Value)}, DnLL C (l.map by1) css → css.flatten = l.map (fun x => Value.int .u8 x)
  | [], css, hd => by simp only [List.map_nil, DnLL] at hd; subst hd; rfl
  | x :: l, css, hd => by
    simp only [List.map_cons, DnLL] at hd
    obtain ⟨u, us, rfl, h1, h2⟩ := hd
    have h3 := dnll_by1 h2
    simp only [by1, DnL, Dn] at h1
    obtain ⟨v, vs, rfl, rfl, rfl⟩ := h1
    simp [h3]
theorem S_conv_bytes {src dst : TypeId} {x : Operand} {b : Bool} {l : List Int} {t : TV} {ts te td : TI} (ho : o.op = .convert src dst x) (hx : tev s x = t) (ha : argT h t = some (.sl b (l.map by1))) (hs : tiOf P src = some ts) (hk : ts.k = 3) (he : tiOf P ts.el = some te) (hek : te.ik = some .u8) (hd : tiOf P dst = some td) (hdk : td.k = 4) :
    TStep P B w0 h s o (.v (.string (strOfNums l))) none := .same fun ρ h' w a H R hh => by
  have h1 := hh x (by simp [ho, Op.operands])
  rw [hx] at h1
  have h2 := argT_dn H R _ _ _ ha h1
  simp only [Dn] at h2
  obtain ⟨A, c, css, sz, e1, h3, h4, h5, h6, h7, h8⟩ := h2
  have hfl := dnll_by1 h7
  have e4 := ti_string hd hdk
  have e2 := ti_slice hs hk
  have e3 := ti_int he hek
  have hrun : (convert src dst (a.eval x)).run P w = .ok (.string (strOfNums l)) w := by
    rw [e1]
    cases A with
    | none =>
      have hl : l = [] := by have := h5 rfl; simpa using this
      subst hl
      have := run_convert_bytes_nil (P := P) w src ts.el e2 e3 ((List.map by1 ([] : List Int)).length) c dst e4
      rw [this]; rfl
    | some ad =>
      obtain ⟨g1, g2⟩ := h8 ad rfl
      have hl : (loadCells ad l.length).run P w = .ok (l.map (Value.int .u8)).toArray w := by
        have := run_loadCells_list (P := P) w ad (l.map (Value.int .u8)) (fun j v hj => g2 j v (by rw [hfl]; exact hj))
        simpa using this
      rw [List.length_map, run_convert_bytes_string w src dst ts.el _ l.length c e2 e3 e4, run_bytesToString w _ l.length c l hl, foldl_push_bytes]
      simp [strOfNums, ByteArray.empty, ByteArray.emptyWithCapacity]
      rfl
  exact ⟨.string (strOfNums l), by simp [execOp, ho, hrun], by simp only [Dn]⟩
/-- A function without a body for which the model stands in: what it yields. -/
def ExtM (P : Program) (f : FuncId) (ts : List TV) (u : Value) : Prop := ∀ (C : Cx) (vals : List Value), DnL C ts vals → (callFunc f vals.toArray).run P C.w = .ok (.value u) C.w
theorem S_call_ext {cl : Call} {fop : Operand} {f : FuncId} {caps ts : List TV} {u : Value} (ho : o.op = .call cl) (hcl : cl.callee = .value fop) (hf : tev s fop = .fn (.func f) caps)
    (ha : argPL h (cl.args.toList.map (tev s) ++ caps) = some ts) (hm : ExtM P f ts u) : TStep P B w0 h s o (.v u) none := .same fun ρ h' w a H R hx => by
  have h1 := hx fop (by simp [ho, Op.operands, Call.operands, hcl])
  rw [hf] at h1
  simp only [Dn] at h1
  obtain ⟨cv, h2, h3⟩ := h1
  have h4 : DnL (cxOf B ρ h' w) (cl.args.toList.map (tev s) ++ caps) (cl.args.toList.map a.eval ++ cv) := (eval_list _ fun x hx' => hx x (by simp [ho, Op.operands, Call.operands, hcl] at hx' ⊢; exact .inr hx')).append h3
  have h5 := argPL_dn H R _ _ _ ha h4
  have h6 : (callFunc f (cl.args.toList.map a.eval ++ cv).toArray).run P w = .ok (.value u) w := hm (cxAll B ρ h' w) _ h5
  have e1 : (cl.args.map a.eval ++ cv.toArray) = (cl.args.toList.map a.eval ++ cv).toArray := by
    apply Array.ext'
    simp
  refine ⟨u, ?_, by simp only [Dn]⟩
  rw [← e1] at h6
  simpa [execOp, ho, resolve, hcl, h2, Deferred.ofValue, invoke] using h6
end
end Go.Proofs.Ytpckkajodpiiaaa
