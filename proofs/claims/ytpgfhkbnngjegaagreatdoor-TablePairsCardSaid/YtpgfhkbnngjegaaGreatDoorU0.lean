/- More operations over trees: strings, package-level tables, bytes as strings. Condition: what the program's table says of types. -/
import Derived.Test.YtpgfhkbnngjegaaGreatDoorT26
import Derived.Test.YtpgfhkbnngjegaaGreatDoorT26
import Derived.Laws.Strings
import Derived.Laws.Cover1
import Derived.Laws.Concat
import Derived.Laws.BytesArg
import Derived.Lib.ConvBytes
import Derived.Laws.Pointers
namespace Go.Proofs.YtpgfhkbnngjegaaGreatDoor
open Go.RowKit
set_option linter.unusedVariables false
set_option linter.unusedSimpArgs false

section
variable {P : Program} {B : Nat} {w0 : World} {h : List LB} {s : List TV} {o : Oper}
/-- A string's bytes. -/
def bs (u : ByteArray) : List UInt8 := u.data.toList
theorem bs_eq (u : ByteArray) : u.toList = bs u := ByteArray.toList_eq ..
def bsEq (a b : ByteArray) : Bool := bs a == bs b
theorem bsEq_t (a b : ByteArray) : (bsEq a b = true) = (bs a = bs b) := by simp [bsEq]
theorem bsEq_f (a b : ByteArray) : (bsEq a b = false) = ¬ (bs a = bs b) := by simp [bsEq]
/-- What an operation on two strings yields. -/
def strRes (op : BinOp) (a b : ByteArray) : Option Value :=
  match op with
  | .eql => some (.bool (bsEq a b))
  | .neq => some (.bool (!(bsEq a b)))
  | .lss => some (.bool (Op.bytesLess (bs a) (bs b)))
  | .leq => some (.bool (Op.bytesLess (bs a) (bs b) || bsEq a b))
  | .gtr => some (.bool (!(Op.bytesLess (bs a) (bs b) || bsEq a b)))
  | .geq => some (.bool (!(Op.bytesLess (bs a) (bs b))))
  | _ => none
theorem S_str {op : BinOp} {t ty : TypeId} {x y : Operand} {a b : ByteArray} {u : Value} (ho : o.op = .binOp op t x y ty) (hx : tev s x = .v (.string a)) (hy : tev s y = .v (.string b)) (hr : strRes op a b = some u) : TStep P B w0 h s o (.v u) none :=
  S_bin ho (by rw [hx]; rfl) (by rw [hy]; rfl) fun w => by
    have hg : eqGuard op t x y (.string a) (.string b) = pure () := by cases op <;> rfl
    rw [hg]
    cases op <;> simp only [strRes, Option.some.injEq] at hr <;> first | (cases hr; done) | (subst hr; simp [binOp, Op.stringOp, bs_eq, bsEq])
theorem S_cat {t ty : TypeId} {x y : Operand} {a b : ByteArray} (ho : o.op = .binOp .add t x y ty) (hx : tev s x = .v (.string a)) (hy : tev s y = .v (.string b)) (hs : a.size + b.size ≤ 9223372036854775807) : TStep P B w0 h s o (.v (.string (a ++ b))) none :=
  S_bin ho (by rw [hx]; rfl) (by rw [hy]; rfl) fun w => by
    have hg : eqGuard .add t x y (.string a) (.string b) = pure () := rfl
    rw [hg, binOp_string_add]
    exact run_string_add_sum w a b hs
/-- A pointer that is not nil beside nil. -/
theorem S_ptr_nil {op : BinOp} {t ty : TypeId} {x y : Operand} {ti : TI} (neg : Bool) (ho : o.op = .binOp op t x y ty) (hop : op = if neg then .neq else .eql) (hx : (∃ i off, tev s x = .ptr i off) ∨ (∃ ts, tev s x = .eptr ts)) (hy : tev s y = .v (.pointer none)) (ht : tiOf P t = some ti) (hk : ti.k = 7) : TStep P B w0 h s o (.v (.bool neg)) none := .same fun ρ h' w a H R hh => by
  have h1 := hh x (by simp [ho, Op.operands])
  have h2 := hh y (by simp [ho, Op.operands])
  rw [hy] at h2
  simp only [Dn] at h2
  have h3 : ∃ ad : Addr, a.eval x = .pointer (some ad) := by
    rcases hx with ⟨i, off, hx⟩ | ⟨ts, hx⟩
    · rw [hx] at h1
      simp only [Dn] at h1
      obtain ⟨_, g, _, h4⟩ := h1
      exact ⟨_, h4⟩
    · rw [hx] at h1
      simp only [Dn] at h1
      obtain ⟨ad, vs, h4, _⟩ := h1
      exact ⟨_, h4⟩
  obtain ⟨ad, h3⟩ := h3
  have hu : P.underlying t = some (.pointer (P.pointee t)) := by
    obtain ⟨i, d, hi, hd, rfl⟩ := ti_parts ht
    cases d <;> simp at hk
    simp [Program.pointee, hd]
  refine ⟨.bool neg, ?_, by simp only [Dn]⟩
  cases neg
  · simp only [Bool.false_eq_true, if_false] at hop
    subst hop
    have hg : eqGuard .eql t x y (.pointer (some ad)) (.pointer none) = pure () := rfl
    simp [execOp, ho, h2, h3, hg, run_eql_pointer_nil w t (some ad) hu]
  · simp only [if_true] at hop
    subst hop
    have hg : eqGuard .neq t x y (.pointer (some ad)) (.pointer none) = pure () := rfl
    simp [execOp, ho, h2, h3, hg, run_neq_pointer_nil w t (some ad) hu]
/-- What a package-level table holds at a place. -/
theorem S_load_gl {t : TypeId} {x : Operand} {g off : Nat} {vs : List Value} {v : Value} {ti : TI} (ho : o.op = .load t x) (hx : tev s x = .v (.pointer (some ⟨g, off, none⟩))) (hg : gl g = some vs) (hv : vs[off]? = some v) (ht : tiOf P t = some ti) (ha : ti.ag = false) : TStep P B w0 h s o (ofV v) none := .same fun ρ h' w a H R hh => by
  have h1 := hh x (by simp [ho, Op.operands])
  rw [hx] at h1
  simp only [Dn] at h1
  have hc := (R.glb.at_ g vs hg).2 off v hv
  obtain ⟨u, h8, h9⟩ := packT_run (C := cxOf B ρ h' w) (P := P) (ad := ⟨g, off, none⟩) (l := [ofV v]) (vs := [v]) (tv := ofV v) ht (by simp [packT, ha]) (DnL.cons (ofV_dn _ v) .nil) (fun j u hu => by
    cases j with
    | zero => simp only [List.getElem?_cons_zero, Option.some.injEq] at hu; subst hu; (have e0 : (⟨g, off, none⟩ : Addr).add 0 = ⟨g, off, none⟩ := rfl); rw [e0]; exact hc
    | succ j => simp at hu)
  have h8' : (loadVar t ⟨g, off, none⟩).run P w = .ok u w := h8
  exact ⟨u, by simp [execOp, ho, h1, Instr.loadAt, Instr.sureAddr, h8'], h9⟩
theorem S_index_gl {t : TypeId} {x y : Operand} {g off : Nat} {k : IntKind} {m : Int} {j : Nat} {ti te : TI} (ho : o.op = .indexAddr t x y) (hx : tev s x = .v (.pointer (some ⟨g, off, none⟩))) (hy : tev s y = .v (.int k m)) (ht : tiOf P t = some ti) (hk : ti.k = 2) (he : tiOf P ti.el = some te)
    (hm : m = (j : Int)) (hj : j < ti.len) : TStep P B w0 h s o (.v (.pointer (some ⟨g, off + j * te.n, none⟩))) none := .same fun ρ h' w a H R hh => by
  have h1 := hh x (by simp [ho, Op.operands])
  have h2 := hh y (by simp [ho, Op.operands])
  rw [hx] at h1
  rw [hy] at h2
  simp only [Dn] at h1 h2
  subst hm
  refine ⟨.pointer (some ((⟨g, off, none⟩ : Addr).add (j * te.n))), ?_, ?_⟩
  · simp [execOp, ho, h2, h1, Instr.indexAt, Instr.sureAddr, asInt_run, run_underlying (ti_array ht hk), ti_size he, hj]
  · simp only [Dn]
    unfold Addr.add
    split <;> simp_all
theorem S_index_eptr {t : TypeId} {x y : Operand} {cs : List TV} {k : IntKind} {m : Int} {j : Nat} {ti te : TI} (ho : o.op = .indexAddr t x y) (hx : tev s x = .eptr cs) (hy : tev s y = .v (.int k m)) (ht : tiOf P t = some ti) (hk : ti.k = 2) (he : tiOf P ti.el = some te)
    (hm : m = (j : Int)) (hj : j < ti.len) : TStep P B w0 h s o (.eptr (cs.drop (j * te.n))) none := .same fun ρ h' w a H R hh => by
  have h1 := hh x (by simp [ho, Op.operands])
  have h2 := hh y (by simp [ho, Op.operands])
  rw [hx] at h1
  rw [hy] at h2
  simp only [Dn] at h1 h2
  obtain ⟨ad, vs, h7, h3, h4, h5, h6⟩ := h1
  subst hm
  refine ⟨.pointer (some (ad.add (j * te.n))), ?_, ?_⟩
  · simp [execOp, ho, h2, h7, Instr.indexAt, Instr.sureAddr, asInt_run, run_underlying (ti_array ht hk), ti_size he, hj]
  · simp only [Dn]
    refine ⟨_, vs.drop (j * te.n), rfl, by rw [addr_block]; exact h3, by rw [addr_block]; exact h4, h5.drop _, fun i u hu => ?_⟩
    rw [addr_add]
    exact h6 _ u (by rw [← hu, List.getElem?_drop])
/-- Cells, one by one. -/
def ones (cs : List TV) : List (List TV) := cs.map fun x => [x]
theorem dnll_ones {C : Cx} : ∀ {cs : List TV} {vs : List Value}, DnL C cs vs → DnLL C (ones cs) (vs.map fun v => [v])
  | [], vs, h => by simp only [DnL] at h; subst h; simp [ones, DnLL]
  | c :: cs, vs, h => by
    simp only [DnL] at h
    obtain ⟨u, us, rfl, h1, h2⟩ := h
    exact DnLL.cons (DnL.cons h1 DnL.nil) (dnll_ones h2)
theorem flat_ones (vs : List Value) : (vs.map fun v => [v]).flatten = vs := by
  induction vs with
  | nil => rfl
  | cons v vs ih => simp [ih]
theorem S_slice_eptr {t : TypeId} {x : Operand} {cs : List TV} {ti te : TI} (ho : o.op = .slice t x none none none) (hx : tev s x = .eptr cs) (ht : tiOf P t = some ti) (hk : ti.k = 2) (he : tiOf P ti.el = some te) (hte : te.n = 1) (hl : cs.length = ti.len) (hm : ti.len ≤ maxLen) :
    TStep P B w0 h s o (.sl false (ones cs)) none := .same fun ρ h' w a H R hh => by
  have h1 := hh x (by simp [ho, Op.operands])
  rw [hx] at h1
  simp only [Dn] at h1
  obtain ⟨ad, vs, h7, h3, h4, h5, h6⟩ := h1
  have hvl := h5.len
  have hol : (ones cs).length = ti.len := by simp [ones, hl]
  refine ⟨.slice (some (if ti.len = 0 then ad else ad.add (0 * te.n))) ti.len ti.len, ?_, ?_⟩
  · simp [execOp, ho, h7, Instr.sliceAt, Instr.sureAddr, Instr.sliceBounds, run_underlying (ti_array ht hk), ti_size he]
  · simp only [Dn]
    have e0 : (if ti.len = 0 then ad else ad.add (0 * te.n)) = ad := by
      split
      · rfl
      · simp [Addr.add]
    rw [e0]
    refine ⟨some ad, ti.len, vs.map fun v => [v], 1, by rw [hol], by rw [hol]; exact Nat.le_refl _, hm, fun h => (by cases h), fun z hz => ?_, dnll_ones h5, fun ad' ha => ?_⟩
    · obtain ⟨v, _, rfl⟩ := List.mem_map.1 hz; rfl
    · injection ha with ha
      subst ha
      refine ⟨fun _ => ⟨h3, h4, fun hb => (by cases hb)⟩, fun j u hu => h6 j u ?_⟩
      rwa [flat_ones] at hu
/-- A byte's cell. -/
def by1 (x : Int) : List TV := [.v (.int .u8 x)]
theorem dnll_by1 {C : Cx} : ∀ {l : List Int} {css : List (List Value)}, DnLL C (l.map by1) css → css.flatten = l.map (fun x => Value.int .u8 x)
  | [], css, hd => by simp only [List.map_nil, DnLL] at hd; subst hd; rfl
  | x :: l, css, hd => by
    simp only [List.map_cons, DnLL] at hd
    obtain ⟨u, us, rfl, h1, h2⟩ := hd
    have h3 := dnll_by1 h2
    simp only [by1, DnL, Dn] at h1
    obtain ⟨v, vs, rfl, rfl, rfl⟩ := h1
    simp [h3]
theorem S_conv_bytes {src dst : TypeId} {x : Operand} {b : Bool} {l : List Int} {t : TV} {ts te td : TI} (ho : o.op = .convert src dst x) (hx : tev s x = t) (ha : argT h t = some (.sl b (l.map by1))) (hs : tiOf P src = some ts) (hk : ts.k = 3) (he : tiOf P ts.el = some te) (hek : te.ik = some .u8) (hd : tiOf P dst = some td) (hdk : td.k = 4) :
    TStep P B w0 h s o (.v (.string (strOfNums l))) none := .same fun ρ h' w a H R hh => by
  have h1 := hh x (by simp [ho, Op.operands])
  rw [hx] at h1
  have h2 := argT_dn H R _ _ _ ha h1
  simp only [Dn] at h2
  obtain ⟨A, c, css, sz, e1, h3, h4, h5, h6, h7, h8⟩ := h2
  have hfl := dnll_by1 h7
  have e4 := ti_string hd hdk
  have e2 := ti_slice hs hk
  have e3 := ti_int he hek
  have hrun : (convert src dst (a.eval x)).run P w = .ok (.string (strOfNums l)) w := by
    rw [e1]
    cases A with
    | none =>
      have hl : l = [] := by have := h5 rfl; simpa using this
      subst hl
      have := run_convert_bytes_nil (P := P) w src ts.el e2 e3 ((List.map by1 ([] : List Int)).length) c dst e4
      rw [this]; rfl
    | some ad =>
      obtain ⟨g1, g2⟩ := h8 ad rfl
      have hl : (loadCells ad l.length).run P w = .ok (l.map (Value.int .u8)).toArray w := by
        have := run_loadCells_list (P := P) w ad (l.map (Value.int .u8)) (fun j v hj => g2 j v (by rw [hfl]; exact hj))
        simpa using this
      rw [List.length_map, run_convert_bytes_string w src dst ts.el _ l.length c e2 e3 e4, run_bytesToString w _ l.length c l hl, foldl_push_bytes]
      simp [strOfNums, ByteArray.empty, ByteArray.emptyWithCapacity]
      rfl
  exact ⟨.string (strOfNums l), by simp [execOp, ho, hrun], by simp only [Dn]⟩
/-- A text's bytes, as numbers. -/
def numS (u : ByteArray) : List Int := (bs u).map fun c => (c.toNat : Int)
theorem TStep.grow {tv : TV} (hh : ∀ (ρ : Nat → Value) (h' : Nat → LB) (w : World) (a : Act), HS h h' → Rel B w0 ρ h' w → (∀ x ∈ o.op.operands.toList, Dn (cxOf B ρ h' w) (tev s x) (a.eval x)) →
    ∃ u w', (execOp a.eval o).run P w = .ok (.value u) w' ∧ Below w.heap.size w w' ∧ Dn (cxOf B ρ h' w') tv u) : TStep P B w0 h s o tv none := by
  intro ρ h' w a H _ R hx K Q hK
  obtain ⟨u, w', h1, h2, h3⟩ := hh ρ h' w a H R hx
  unfold Oper.wp
  rw [h1]
  exact hK u w' ρ (R.grow h2) (.grow h2) h2 h3
theorem bytesWorld_below (w : World) (e : TypeId) (u : ByteArray) : Below w.heap.size w (Lib.bytesWorld w e u) :=
  ⟨rfl, rfl, rfl, by rw [Lib.bytesWorld_size]; omega, fun k hk => Lib.bytesWorld_at_old w e u k hk⟩
theorem numS_len (u : ByteArray) : (numS u).length = u.size := by
  unfold numS
  rw [List.length_map]
  exact Array.length_toList
theorem dn_by1 {C : Cx} : ∀ l : List Int, DnLL C (l.map by1) (l.map fun x => [Value.int .u8 x])
  | [] => by simp [DnLL]
  | x :: l => DnLL.cons (DnL.cons (by simp [Dn]) DnL.nil) (dn_by1 l)
theorem flat_by1 (l : List Int) : (l.map fun x => [Value.int .u8 x]).flatten = l.map (Value.int .u8) := by
  induction l with
  | nil => rfl
  | cons x l ih => simp [ih]
theorem S_conv_str_by {src dst : TypeId} {x : Operand} {u : ByteArray} {ts td te : TI} (ho : o.op = .convert src dst x) (hx : tev s x = .v (.string u)) (hs : tiOf P src = some ts) (hd : tiOf P dst = some td) (hdk : td.k = 3) (he : tiOf P td.el = some te) (hek : te.ik = some .u8) (hl : u.size ≤ 9223372036854775807) :
    TStep P B w0 h s o (.sl false ((numS u).map by1)) none := .grow fun ρ h' w a H R hh => by
  have h1 := hh x (by simp [ho, Op.operands])
  rw [hx] at h1
  simp only [Dn] at h1
  obtain ⟨i, d, hi, hdd, -⟩ := ti_parts hs
  have e2 := ti_slice hd hdk
  have e3 := ti_int he hek
  have hrun := Lib.run_convert_string_bytes (P := P) w src dst td.el u hdd e2 e3
  refine ⟨.slice (some ⟨w.heap.size, 0, none⟩) u.size (grownCap w u.size 0 td.el), Lib.bytesWorld w td.el u, by simp [execOp, ho, h1, hrun], bytesWorld_below w td.el u, ?_⟩
  simp only [Dn]
  have hlen : ((numS u).map by1).length = u.size := by rw [List.length_map, numS_len]
  refine ⟨some ⟨w.heap.size, 0, none⟩, grownCap w u.size 0 td.el, (numS u).map fun x => [Value.int .u8 x], 1, by rw [hlen], by rw [hlen]; exact grownCap_ge w u.size 0 td.el, grownCap_le_maxLen w u.size 0 td.el (by unfold maxLen; omega), fun e => (by cases e), fun z hz => ?_, dn_by1 _, fun ad ha => ?_⟩
  · obtain ⟨y, _, rfl⟩ := List.mem_map.1 hz; rfl
  · injection ha with ha
    subst ha
    refine ⟨fun _ => ⟨⟨fun i hi e => ?_, fun i hp => Nat.lt_irrefl _ (R.ps_lt hp).2.1⟩, by rw [show (cxOf B ρ h' (Lib.bytesWorld w td.el u)).w = Lib.bytesWorld w td.el u from rfl, Lib.bytesWorld_size]; simp, fun hb => (by cases hb)⟩, fun j x hj => ?_⟩
    · have := R.inj i _ hi e
      simp at this
    · rw [flat_by1] at hj
      have hjl : j < u.size := by
        have := (List.getElem?_eq_some_iff.1 hj).1
        rw [List.length_map, numS_len] at this; exact this
      have e1 : (⟨w.heap.size, 0, none⟩ : Addr).add j = ⟨w.heap.size, j, none⟩ := by
        simp [Addr.add]
        exact fun h => h.symm
      rw [e1]
      refine (Lib.bytesWorld_cell w td.el u j hjl).trans ?_
      rw [← hj, List.getElem?_map]
      unfold numS bs
      rw [List.getElem?_map]
      have hj2 : j < u.data.toList.length := by rw [Array.length_toList]; exact hjl
      rw [List.getElem?_eq_getElem hj2, List.getD_eq_getElem?_getD, List.getElem?_eq_getElem hj2]
      rfl
theorem S_conv_rune {src dst : TypeId} {x : Operand} {k : IntKind} {n : Int} {ts td : TI} (ho : o.op = .convert src dst x) (hx : tev s x = .v (.int k n)) (hs : tiOf P src = some ts) (hd : tiOf P dst = some td) (hk : td.k = 4) :
    TStep P B w0 h s o (.v (.string (Utf8.encode n))) none := .same fun ρ h' w a H R hh => by
  have h1 := hh x (by simp [ho, Op.operands])
  rw [hx] at h1
  simp only [Dn] at h1
  obtain ⟨i, d, hi, hd', _⟩ := ti_parts hs
  exact ⟨_, by simp [execOp, ho, h1, convert, run_underlying hd', run_underlying (ti_string hd hk), Conv.intToString]; rfl, by simp [Dn]⟩
/-- A function without a body for which the model stands in: what it yields. -/
def ExtM (P : Program) (f : FuncId) (ts : List TV) (u : Value) : Prop := ∀ (C : Cx) (vals : List Value), DnL C ts vals → (callFunc f vals.toArray).run P C.w = .ok (.value u) C.w
theorem S_call_ext {cl : Call} {fop : Operand} {f : FuncId} {caps ts : List TV} {u : Value} (ho : o.op = .call cl) (hcl : cl.callee = .value fop) (hf : tev s fop = .fn (.func f) caps)
    (ha : argPL h (cl.args.toList.map (tev s) ++ caps) = some ts) (hm : ExtM P f ts u) : TStep P B w0 h s o (.v u) none := .same fun ρ h' w a H R hx => by
  have h1 := hx fop (by simp [ho, Op.operands, Call.operands, hcl])
  rw [hf] at h1
  simp only [Dn] at h1
  obtain ⟨cv, h2, h3⟩ := h1
  have h4 : DnL (cxOf B ρ h' w) (cl.args.toList.map (tev s) ++ caps) (cl.args.toList.map a.eval ++ cv) := (eval_list _ fun x hx' => hx x (by simp [ho, Op.operands, Call.operands, hcl] at hx' ⊢; exact .inr hx')).append h3
  have h5 := argPL_dn H R _ _ _ ha h4
  have h6 : (callFunc f (cl.args.toList.map a.eval ++ cv).toArray).run P w = .ok (.value u) w := hm (cxAll B ρ h' w) _ h5
  have e1 : (cl.args.map a.eval ++ cv.toArray) = (cl.args.toList.map a.eval ++ cv).toArray := by
    apply Array.ext'
    simp
  refine ⟨u, ?_, by simp only [Dn]⟩
  rw [← e1] at h6
  simpa [execOp, ho, resolve, hcl, h2, Deferred.ofValue, invoke] using h6
/-- slices.Clone, as it is asked of. -/
def CloneC (P : Program) (f : FuncId) (e : TypeId) (sz : Nat) : Prop := entB P f = true ∧ 0 < sz ∧ ∀ (A : Option Addr) (m c : Nat) (xs : List Value) (w : World), Sees w none sz A m xs → m ≤ 1000000 → (∀ v ∈ xs, v.oneCell' = true) →
  Calls P f #[.slice A m c] w fun e' w' => ∃ A' c', e' = .returned (.slice A' m c') ∧ w'.ownsRow w.heap.size e sz (.slice A' m c') m xs ∧ Below w.heap.size w w'
/-- A tree in blocks that are taken together, or a part of a local row. -/
def isZ : TV → Bool
  | .z _ _ => true
  | .win _ _ _ => true
  | _ => false
theorem argP_sl {t : TV} {b : Bool} {els : List (List TV)} (e : argP h t = some (.sl b els)) (hz : isZ t = false) : t = .sl b els ∨ (t = .nil_ ∧ els = []) ∨ ∃ i e0 sz, t = .row i ∧ hf h i = .row e0 sz els := by
  cases t <;> simp only [argP, argT, Option.map_eq_some_iff, Option.some.injEq, reduceCtorEq, and_false, exists_false, TV.sl.injEq] at e
  case sl b' els' => obtain ⟨rfl, rfl⟩ := e; exact .inl rfl
  case nil_ => exact .inr (.inl ⟨rfl, e.2.symm⟩)
  case row i =>
    split at e
    · rename_i e0 sz els' hi
      simp only [Option.some.injEq, TV.sl.injEq] at e
      obtain ⟨_, rfl⟩ := e
      exact .inr (.inr ⟨i, e0, sz, rfl, hi⟩)
    · cases e
  case ptr i off =>
    split at e
    · simp only [Option.map_eq_some_iff, reduceCtorEq, and_false, exists_false] at e
    · cases e
  case z i t => cases hz
  case win i k sz => cases hz
theorem rel_one {ρ : Nat → Value} {h' : Nat → LB} {w : World} (R : Rel B w0 ρ h' w) : ∀ {ys : List (List TV)} {css : List (List Value)}, DnLL (cxOf B ρ h' w) ys css → (∀ c ∈ ys, c.all TV.one = true) → ∀ u ∈ css.flatten, u.oneCell' = true
  | [], css, hd, _, u, hu => by simp only [DnLL] at hd; subst hd; simp at hu
  | t :: l, css, hd, ha, u, hu => by
    simp only [DnLL] at hd
    obtain ⟨u0, us', rfl, h2, h3⟩ := hd
    rw [List.flatten_cons, List.mem_append] at hu
    rcases hu with hu | hu
    · exact cells_one R h2 (ha t (by simp)) u hu
    · exact rel_one R h3 (fun c hc => ha c (by simp [hc])) u hu
theorem S_clone {cl : Call} {fop : Operand} {f : FuncId} {caps : List TV} {b : Bool} {els : List (List TV)} {e0 : TypeId} {sz : Nat} (ho : o.op = .call cl) (hcl : cl.callee = .value fop) (hf' : tev s fop = .fn (.func f) caps)
    (ha : argPL h (cl.args.toList.map (tev s) ++ caps) = some [.sl b els]) (hm : CloneC P f e0 sz) (hl : ∀ c ∈ els, c.length = sz) (h1 : ∀ c ∈ els, c.all TV.one = true) (hn : els.length ≤ 1000000) (hz : (cl.args.toList.map (tev s) ++ caps).any isZ = false) : TStep P B w0 h s o (.row h.length) (some (.row e0 sz els)) := by
  intro ρ h' w a H hno R hx K Q hK
  have hnone := hno rfl
  have g1 := hx fop (by simp [ho, Op.operands, Call.operands, hcl])
  rw [hf'] at g1
  simp only [Dn] at g1
  obtain ⟨cv, g2, g3⟩ := g1
  have g4 : DnL (cxOf B ρ h' w) (cl.args.toList.map (tev s) ++ caps) (cl.args.toList.map a.eval ++ cv) := (eval_list _ fun x hx' => hx x (by simp [ho, Op.operands, Call.operands, hcl] at hx' ⊢; exact .inr hx')).append g3
  obtain ⟨ts, hts⟩ : ∃ ts, cl.args.toList.map (tev s) ++ caps = ts := ⟨_, rfl⟩
  obtain ⟨us, hus⟩ : ∃ us, cl.args.toList.map a.eval ++ cv = us := ⟨_, rfl⟩
  rw [hts] at ha g4 hz
  rw [hus] at g4
  obtain ⟨t, rfl, ht⟩ : ∃ t, ts = [t] ∧ argP h t = some (.sl b els) := by
    match ts, ha with
    | [], ha => simp [argPL] at ha
    | t :: r, ha =>
      simp only [argPL] at ha
      split at ha
      · rename_i t' ts' h2 h3
        simp only [Option.some.injEq, List.cons.injEq] at ha
        obtain ⟨rfl, rfl⟩ := ha
        match r, h3 with
        | [], _ => exact ⟨t, rfl, h2⟩
        | x :: r, h3 =>
          simp only [argPL] at h3
          split at h3
          · simp at h3
          · cases h3
      · cases ha
  simp only [DnL] at g4
  obtain ⟨u, _, rfl, g5, rfl⟩ := g4
  obtain ⟨A, c, css, r1, r2, r3, r4⟩ : ∃ A c css, u = .slice A els.length c ∧ Sees w none sz A els.length css.flatten ∧ DnLL (cxOf B ρ h' w) els css ∧ ∀ x ∈ css, x.length = sz := by
    rcases argP_sl ht (by simpa using hz) with rfl | ⟨rfl, rfl⟩ | ⟨i, e1, sz', rfl, hi⟩
    · obtain ⟨A, c, css, r1, _, _, r2, r3, r4⟩ := dn_sees g5 hl hm.2.1
      exact ⟨A, c, css, r1, r2, r3, r4⟩
    · simp only [Dn] at g5
      exact ⟨none, 0, [], g5, by simpa using Sees.nil w none sz, by simp [DnLL], by simp⟩
    · simp only [Dn] at g5
      obtain ⟨p1, p2⟩ := g5
      obtain ⟨A, c, css, r1, r2, r3, r4⟩ := R.row i _ _ _ (H.same hi (by simp) p1)
      have r1' : u = .slice A els.length c := by rw [p2]; exact r1
      rw [r1] at r2
      rcases Nat.eq_zero_or_pos els.length with hy | hy
      · have hys := List.eq_nil_of_length_eq_zero hy
        subst hys
        have hcss := List.eq_nil_of_length_eq_zero r4.len
        subst hcss
        exact ⟨A, c, [], r1', ⟨by simp, fun _ => rfl, fun ad _ => ⟨fun hn => by simp at hn, fun j u hu => by simp at hu⟩⟩, r4, by simp⟩
      · have hsz : sz' = sz := by
          obtain ⟨cv, h8, h9⟩ := r4.at_ 0 els[0] (List.getElem?_eq_getElem hy)
          rw [← r3 cv (List.mem_of_getElem? h8), h9.len, hl _ (List.getElem_mem hy)]
        subst hsz
        have hS := Sees.of_own r2
        exact ⟨A, c, css, r1', ⟨hS.1, hS.2.1, fun ad ha => ⟨fun hn => by obtain ⟨cur, t, fz, hc, _⟩ := (hS.2.2 ad ha).1 hn; exact ⟨cur, t, fz, hc, fun _ h => by cases h⟩, (hS.2.2 ad ha).2⟩⟩, r4, r3⟩
  have hraw := hm.2.2 A els.length c css.flatten w r2 hn (rel_one R r3 h1)
  unfold Oper.wp
  rw [call_run ho hcl g2 hm.1]
  unfold Oper.upon
  have e3 : (cl.args.map a.eval ++ cv.toArray) = #[.slice A els.length c] := by
    apply Array.ext'
    rw [r1] at hus
    simpa using hus
  rw [e3]
  refine hraw.mono ?_
  rintro e' w' ⟨A', c', rfl, ho', hb⟩
  have hov : ∀ g, blkOf (.slice A' els.length c') = some g → w.heap.size ≤ g ∧ g < w'.heap.size := fun g hg => ho'.lt g (by cases A' <;> exact hg)
  have KK : Keeps (cxOf B ρ h' w) (cxOf B (updf ρ h.length (.slice A' els.length c')) (updf h' h.length (.row e0 sz els)) w') := .add hnone hb hov
  refine hK _ w' (updf ρ h.length (.slice A' els.length c')) (R.add hnone hb hov (fun _ _ e => by cases e) (fun e' sz' els' e1 => ?_)) KK hb ?_
  · injection e1 with e2 e3 e4
    subst e2 e3 e4
    exact ⟨A', c', css, rfl, own_mono ho' R.size, r4, DnLL.keep KK _ _ r3⟩
  · simp only [Dn]
    refine ⟨?_, ?_⟩
    · show (updf h' h.length _ h.length).here
      rw [updf_same]; trivial
    · show _ = updf ρ h.length _ h.length
      rw [updf_same]
end
end Go.Proofs.YtpgfhkbnngjegaaGreatDoor
