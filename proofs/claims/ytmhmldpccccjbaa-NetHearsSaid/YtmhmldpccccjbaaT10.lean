/- The rules over trees in the form that a printed walk uses: the new state by an equation. Condition: those of the rules. -/
import Derived.Test.YtmhmldpccccjbaaT9
import Derived.IntWalk
namespace Go.Proofs.Ytmhmldpccccjbaa
open Go.RowKit
set_option linter.unusedVariables false
set_option linter.unusedSimpArgs false

theorem PlOk.nil {P : Program} : PlOk P [] [] := rfl
theorem PlOk.cons {P : Program} {off ft : Nat} {fs pl : List (Nat × Nat)} {tf : TI} (h : tiOf P ft = some tf) (h2 : PlOk P fs pl) : PlOk P ((off, ft) :: fs) ((off, tf.n) :: pl) := ⟨tf.n, pl, tf, rfl, h, rfl, h2⟩
theorem untagLL_nil : untagLL [] = [] := rfl
theorem hid_of {p : Prop} (h : p) : Hid p := h
section
variable {P : Program} {B : Nat} {w0 : World} {gh : List Value} {Q : Exit → St → Prop} {σ : St} {ops : Array Oper} {o : Oper} {rest : List Oper}
theorem TW.seq_k {x y : Code} (h : ∀ K : St → Prop, (∀ σ, TW P B w0 gh y σ Q → K σ) → TW P B w0 gh x σ (thenT K Q)) : TW P B w0 gh (.seq x y) σ Q := .seq (h _ fun _ h => h)
theorem TW.reg {id : Nat} {l : List Oper} (h : TL P B w0 gh l.toArray l σ Q) : TW P B w0 gh (.region id l.toArray false) σ Q := .region (by simpa using h)
theorem TL.st {tv : TV} {new : Option LB} (hg : o.guard = none) (hs : TStep P B w0 σ.h σ.s o tv new) (h : ∀ σ', σ' = σ.step o.dst tv new → TL P B w0 gh ops rest σ' Q) : TL P B w0 gh ops (o :: rest) σ Q := .step hg hs (h _ rfl)
theorem TL.st_g {tv : TV} {new : Option LB} {j d : Nat} {og : Oper} {b : Bool} (hg : o.guard = some (j, b)) (ho : ops[j]? = some og) (hd : og.dst = some d) (hdl : d < σ.s.length) (hb : tev σ.s (.tmp d) = .v (.bool b)) (hs : TStep P B w0 σ.h σ.s o tv new)
    (h : ∀ σ', σ' = σ.step o.dst tv new → TL P B w0 gh ops rest σ' Q) : TL P B w0 gh ops (o :: rest) σ Q := .step_g hg ho hd hdl hb hs (h _ rfl)
theorem TL.sk_g {j d : Nat} {og : Oper} {x : Value} {b' : Bool} (hg : o.guard = some (j, b')) (ho : ops[j]? = some og) (hd : og.dst = some d) (hdl : d < σ.s.length) (hb : tev σ.s (.tmp d) = .v x) (hne : isB x b' = false)
    (h : ∀ σ', σ' = σ.step o.dst (.v undef) none → TL P B w0 gh ops rest σ' Q) : TL P B w0 gh ops (o :: rest) σ Q := .skip_g hg ho hd hdl hb hne (h _ rfl)
theorem TL.sto {t t0 : TypeId} {x y : Operand} {i off : Nat} {cs l : List TV} {ti : TI} (hg : o.guard = none) (ho : o.op = .store t x y) (hx : tev σ.s x = .ptr i off) (hi : hf σ.h i = .cells t0 cs) (ht : tiOf P t = some ti) (hy : cellsT (tev σ.s y) = some l)
    (hl : l.length = ti.n) (h1 : l.all TV.one = true) (hoff : off + l.length ≤ cs.length) (h : ∀ σ' : St, σ' = ⟨match o.dst with | some d => σ.s.set d .any | none => σ.s, σ.h.set i (.cells t0 (setsV cs off l)), σ.g⟩ → TL P B w0 gh ops rest σ' Q) : TL P B w0 gh ops (o :: rest) σ Q :=
  .store hg ho hx hi ht hy hl h1 hoff (h _ rfl)
theorem TL.sto_row {t e : TypeId} {x y : Operand} {i off k j sz : Nat} {els : List (List TV)} {c l : List TV} {ti : TI} (hg : o.guard = none) (ho : o.op = .store t x y) (hx : tev σ.s x = .ptr i off) (hi : hf σ.h i = .row e sz els) (hoff : off = k * sz + j) (hk : els[k]? = some c) (ht : tiOf P t = some ti) (hy : cellsT (tev σ.s y) = some l)
    (hl : l.length = ti.n) (h1 : l.all TV.one = true) (hj : j + l.length ≤ sz) (h : ∀ σ' : St, σ' = ⟨match o.dst with | some d => σ.s.set d .any | none => σ.s, σ.h.set i (.row e sz (els.set k (setsV c j l))), σ.g⟩ → TL P B w0 gh ops rest σ' Q) : TL P B w0 gh ops (o :: rest) σ Q :=
  .store_row hg ho hx hi hoff hk ht hy hl h1 hj (h _ rfl)
theorem TL.app {cl : Call} {s x : Operand} {t : TypeId} {i : Nat} {els ys : List (List TV)} {ti te : TI} (hg : o.guard = none) (ho : o.op = .call cl) (hcl : cl = { callee := .builtin .append, args := #[s, x], argTypes := #[t, t] })
    (T : ApTy P t ti te) (hs : tev σ.s s = .row i) (hi : hf σ.h i = .row ti.el te.n els) (hx : Elems σ x ys) (hlen : ∀ c ∈ ys, c.length = te.n) (hone : ∀ c ∈ ys, c.all TV.one = true) (hbd : (els.length + ys.length) * te.by_ ≤ 140737488355328)
    (h : ∀ σ' : St, σ' = ⟨match o.dst with | some d => (kpL (bar i) σ.s).set d (.row i) | none => kpL (bar i) σ.s, (σ.h.map (LB.kp (bar i))).set i (.row ti.el te.n (kpLL (bar i) els ++ kpLL (bar i) ys)), kpL (bar i) σ.g⟩ → TL P B w0 gh ops rest σ' Q) : TL P B w0 gh ops (o :: rest) σ Q :=
  .append hg ho hcl T hs hi hx hlen hone hbd (h _ rfl)
theorem TL.app_nil {cl : Call} {s x : Operand} {t : TypeId} {ys : List (List TV)} {ti te : TI} (hg : o.guard = none) (ho : o.op = .call cl) (hcl : cl = { callee := .builtin .append, args := #[s, x], argTypes := #[t, t] })
    (T : ApTy P t ti te) (hs : tev σ.s s = .nil_) (hx : Elems σ x ys) (hlen : ∀ c ∈ ys, c.length = te.n) (hone : ∀ c ∈ ys, c.all TV.one = true) (hbd : ys.length * te.by_ ≤ 140737488355328)
    (h : ∀ σ' : St, σ' = ⟨match o.dst with | some d => σ.s.set d (.row σ.h.length) | none => σ.s, σ.h ++ [.row ti.el te.n ys], σ.g⟩ → TL P B w0 gh ops rest σ' Q) : TL P B w0 gh ops (o :: rest) σ Q :=
  .append_nil hg ho hcl T hs hx hlen hone hbd (h _ rfl)
def jumpT (l : Nat) (J : St → Prop) (Q : Exit → St → Prop) : Exit → St → Prop
  | .goto l', σ => l' = l ∧ J σ
  | e, σ => Q e σ
/-- A scope that is left by one label, ahead. -/
theorem TW.scope_l {c rest : Code} (l : Nat) (hf : findLabel c l = some rest) (h : TW P B w0 gh c σ (jumpT l (fun σ => TW P B w0 gh rest σ (noGotoT Q)) Q)) : TW P B w0 gh (.scope c) σ Q := fun ρ a w hr =>
  wp_scope_jumps l (fun a w => ∃ σ ρ, TW P B w0 gh rest σ (noGotoT Q) ∧ RelS B w0 gh ρ σ a w) (fun _ _ => 0) hf
    (wp_mono (h ρ a w hr) fun e a w ⟨σ, ρ, h1, h2⟩ => by
      cases e <;> simp only [jumpT, Exit.jump] at h1 ⊢ <;> first | exact ⟨σ, ρ, h1, h2⟩ | exact ⟨h1.1, σ, ρ, h1.2, h2⟩)
    (fun a w ⟨σ, ρ, h1, h2⟩ => wp_mono (h1 ρ a w h2) fun e a w ⟨σ, ρ, h1, h2⟩ => by
      cases e <;> simp only [noGotoT, Exit.jump] at h1 ⊢ <;> first | exact ⟨σ, ρ, h1, h2⟩ | exact h1.elim)
theorem TW.eqs {c : Code} (h : ∀ σ', σ' = σ → TW P B w0 gh c σ' Q) : TW P B w0 gh c σ Q := h _ rfl
theorem TL.eqs {l : List Oper} (h : ∀ σ', σ' = σ → TL P B w0 gh ops l σ' Q) : TL P B w0 gh ops l σ Q := h _ rfl
theorem TPar.st {l : List Oper} {s : List TV} {h : List LB} {K : List TV → List LB → Prop} {tv : TV} {new : Option LB} (hg : o.guard = none) (hs : TStep P B w0 h s o tv new) (hr : ∀ s' h', s' = putO s o.dst tv → h' = addO h new → TPar P B w0 l rest s' h' K) : TPar P B w0 l (o :: rest) s h K :=
  .run hg hs (hr _ _ rfl rfl)
theorem TPar.st_g {l : List Oper} {og : Oper} {s : List TV} {h : List LB} {K : List TV → List LB → Prop} {tv : TV} {new : Option LB} {j d : Nat} {b : Bool} (hg : o.guard = some (j, b)) (ho : l[j]? = some og) (hd : og.dst = some d) (hdl : d < s.length) (hb : tev s (.tmp d) = .v (.bool b)) (hs : TStep P B w0 h s o tv new) (hr : ∀ s' h', s' = putO s o.dst tv → h' = addO h new → TPar P B w0 l rest s' h' K) : TPar P B w0 l (o :: rest) s h K :=
  .run_g hg ho hd hdl hb hs (hr _ _ rfl rfl)
theorem TPar.sk_g {l : List Oper} {og : Oper} {s : List TV} {h : List LB} {K : List TV → List LB → Prop} {j d : Nat} {x : Value} {b' : Bool} (hg : o.guard = some (j, b')) (ho : l[j]? = some og) (hd : og.dst = some d) (hdl : d < s.length) (hb : tev s (.tmp d) = .v x) (hne : isB x b' = false) (hr : ∀ s' h', s' = putO s o.dst (.v undef) → h' = addO h none → TPar P B w0 l rest s' h' K) : TPar P B w0 l (o :: rest) s h K :=
  .skip_g hg ho hd hdl hb hne (hr _ _ rfl rfl)
end
section
variable {h : List LB} {q : Option Nat} {x y : Value} {ts rs : List TV} {t r : TV} {b b' : Bool} {els els' : List (List TV)} {i : Nat} {e : TypeId} {sz : Nat}
theorem Out_v : Out h q (.v x) (.v y) ↔ x = y := by simp only [Out, TV.v.injEq]; exact eq_comm
theorem Out_agg : Out h q (.agg ts) (.agg rs) ↔ OutL h q ts rs := by
  simp only [Out, TV.agg.injEq]
  exact ⟨fun ⟨_, h1, h2⟩ => h1 ▸ h2, fun h1 => ⟨_, rfl, h1⟩⟩
theorem Out_tup : Out h q (.tup ts) (.tup rs) ↔ OutL h q ts rs := by
  simp only [Out, TV.tup.injEq]
  exact ⟨fun ⟨_, h1, h2⟩ => h1 ▸ h2, fun h1 => ⟨_, rfl, h1⟩⟩
theorem OutL_nil : OutL h q [] [] ↔ True := by simp [OutL]
theorem OutL_cons : OutL h q (t :: ts) (r :: rs) ↔ Out h q t r ∧ OutL h q ts rs := by
  simp only [OutL, List.cons.injEq]
  exact ⟨fun ⟨_, _, ⟨h1, h2⟩, h3, h4⟩ => h1 ▸ h2 ▸ ⟨h3, h4⟩, fun h1 => ⟨_, _, ⟨rfl, rfl⟩, h1.1, h1.2⟩⟩
theorem Out_sl : Out h q (.sl b els) (.sl b' els') ↔ b = true ∧ FrLL els ∧ b' = true ∧ els = els' := by
  simp only [Out, TV.sl.injEq]
  exact ⟨fun ⟨h1, h2, h3, h4⟩ => ⟨h1, h2, h3, h4.symm⟩, fun ⟨h1, h2, h3, h4⟩ => ⟨h1, h2, h3, h4.symm⟩⟩
theorem Out_row_osl : Out h q (.row i) (.osl e sz els) ↔ hf h i = .row e sz els ∧ FrLL els ∧ q = some i := by
  simp only [Out, TV.osl.injEq, reduceCtorEq, and_false, or_false]
  constructor
  · rintro ⟨e', sz', els', h1, h2, h3, rfl, rfl, rfl⟩
    exact ⟨h1, h2, h3⟩
  · rintro ⟨h1, h2, h3⟩
    exact ⟨_, _, _, h1, h2, h3, rfl, rfl, rfl⟩
theorem Out_row_sl (e : TypeId) (sz : Nat) (h1 : hf h i = .row e sz els) (h2 : FrLL els) (h3 : q ≠ some i) : Out h q (.row i) (.sl true els) := by
  simp only [Out]
  exact ⟨e, sz, els, h1, h2, .inr ⟨h3, rfl⟩⟩
theorem Out_nil_osl : Out h q .nil_ (.osl e sz els) ↔ q = none ∧ els = [] := by
  simp only [Out, reduceCtorEq, TV.osl.injEq, false_or]
  constructor
  · rintro ⟨h1, e', sz', rfl, rfl, rfl⟩
    exact ⟨h1, rfl⟩
  · rintro ⟨h1, rfl⟩
    exact ⟨h1, _, _, rfl, rfl, rfl⟩
theorem Out_nil_sl : Out h q .nil_ (.sl b els) ↔ b = true ∧ els = [] := by
  simp only [Out, reduceCtorEq, TV.sl.injEq, false_or, and_false, exists_false, or_false]
theorem Out_nil_nil : Out h q .nil_ .nil_ ↔ True := by simp [Out]
end
/-- A state with some slots and blocks told anew. -/
def setsL {α : Type} (s : List α) : List (Nat × α) → List α
  | [] => s
  | (i, t) :: l => setsL (s.set i t) l
theorem setsL_nil {α : Type} (s : List α) : setsL s [] = s := rfl
theorem setsL_cons {α : Type} (s : List α) (i : Nat) (t : α) (l : List (Nat × α)) : setsL s ((i, t) :: l) = setsL (s.set i t) l := rfl
theorem LeL_nil : LeL [] [] ↔ True := by simp [LeL]
theorem LeL_cons {t u : TV} {ts us : List TV} : LeL (t :: ts) (u :: us) ↔ LeT t u ∧ LeL ts us := by
  simp only [LeL, List.cons.injEq]
  exact ⟨fun ⟨_, _, ⟨h1, h2⟩, h3, h4⟩ => h1 ▸ h2 ▸ ⟨h3, h4⟩, fun h1 => ⟨_, _, ⟨rfl, rfl⟩, h1.1, h1.2⟩⟩
theorem LeT_any {t : TV} : LeT t .any ↔ True := by simp [LeT]
theorem LeT_self {t : TV} : LeT t t ↔ True := by simp [LeT]
theorem LeT_v {x y : Value} : LeT (.v x) (.v y) ↔ x = y := by simp [LeT]
theorem LeT_nil_sl {b : Bool} {els : List (List TV)} : LeT .nil_ (.sl b els) ↔ els = [] := by
  simp [LeT]
theorem LeT_sl {b b' : Bool} {els els' : List (List TV)} : LeT (.sl b els) (.sl b' els') ↔ b = b' ∧ els = els' := by simp [LeT]
theorem LeT_of {t u : TV} (h : t = u) : LeT t u := .inr (.inl h)
theorem LeB_nil : LeB [] [] ↔ True := by simp [LeB]
theorem LeB_self {b : LB} {bs cs : List LB} : LeB (b :: bs) (b :: cs) ↔ LeB bs cs := by
  simp only [LeB, List.cons.injEq]
  exact ⟨fun ⟨_, _, ⟨h1, h2⟩, _, h4⟩ => h2 ▸ h4, fun h1 => ⟨_, _, ⟨rfl, rfl⟩, .inl rfl, h1⟩⟩
theorem LeB_cells {t : TypeId} {l l' : List TV} {bs cs : List LB} (h : LeL l l') (h2 : LeB bs cs) : LeB (.cells t l :: bs) (.cells t l' :: cs) := by
  simp only [LeB]
  exact ⟨_, _, rfl, .inr ⟨t, l, l', rfl, rfl, h⟩, h2⟩
theorem LeB_eq {b c : LB} {bs cs : List LB} (h : b = c) (h2 : LeB bs cs) : LeB (b :: bs) (c :: cs) := by
  subst h
  exact LeB_self.2 h2
section
variable {P : Program} {B : Nat} {w0 : World} {gh : List Value} {Q : Exit → St → Prop} {σ : St}
/-- A loop: its rounds' states are that at its head with some slots and blocks told anew. -/
theorem TW.loopS {X : Type} {c : Code} (inv : X → Prop) (μ : X → Nat) (us : X → List (Nat × TV)) (uh : X → List (Nat × LB)) (x0 : X) (h0 : inv x0) (hle : SLe B w0 gh σ ⟨setsL σ.s (us x0), setsL σ.h (uh x0), σ.g⟩)
    (round : ∀ x, inv x → ∀ σ', σ' = (⟨setsL σ.s (us x), setsL σ.h (uh x), σ.g⟩ : St) → TW P B w0 gh c σ' (thenT (fun σ'' => ∃ y, inv y ∧ μ y < μ x ∧ SLe B w0 gh σ'' ⟨setsL σ.s (us y), setsL σ.h (uh y), σ.g⟩) Q)) : TW P B w0 gh (.loop c) σ Q :=
  (TW.loop (fun n σ' => ∃ x, inv x ∧ μ x = n ∧ σ' = (⟨setsL σ.s (us x), setsL σ.h (uh x), σ.g⟩ : St)) (μ x0) ⟨x0, h0, rfl, rfl⟩ fun n σ' ⟨x, h1, h2, h3⟩ =>
    (round x h1 σ' h3).mono fun e σ'' hq => by
      cases e <;> first
        | exact hq
        | (obtain ⟨y, h4, h5, h6⟩ := hq
           exact ⟨μ y, _, by omega, ⟨y, h4, rfl, rfl⟩, h6⟩)).le hle
theorem SLe.back (n : Nat) {s : List TV} {h : List LB} {g : List TV} (hs : LeL (kpL (low n) σ.s) s) (hh : LeB ((σ.h.take n).map (LB.kp (low n))) h) (hg : LeL (kpL (low n) σ.g) g) : SLe B w0 gh σ ⟨s, h, g⟩ := (SLe.cut n).trans (.of hs hh hg)
end
/-- Contracts whose result is told by an equation. -/
theorem TMeets.eq {P : Program} {f : FuncId} {args args' : List TV} {r r' : TV} (h : TMeets P f args r) (ha : args = args') (hr : r = r') : TMeets P f args' r' := by subst ha hr; exact h
theorem ofC_int (k : IntKind) (n : Int) : ofC (.int k n) = .v (.int k n) := rfl
theorem ofC_bool (b : Bool) : ofC (.bool b) = .v (.bool b) := rfl
theorem ofC_string (s : ByteArray) : ofC (.string s) = .v (.string s) := rfl
theorem ofC_pointer (a : Option Addr) : ofC (.pointer a) = .v (.pointer a) := rfl
theorem ofC_nil : ofC (.slice none 0 0) = .nil_ := rfl
theorem ofC_map (a : Option Nat) : ofC (.map a) = .v (.map a) := rfl
theorem ofC_nilFunc : ofC .nilFunc = .v .nilFunc := rfl
theorem ofC_nilIface : ofC .nilIface = .v .nilIface := rfl
theorem ofV_int (k : IntKind) (n : Int) : ofV (.int k n) = .v (.int k n) := rfl
theorem ofV_bool (b : Bool) : ofV (.bool b) = .v (.bool b) := rfl
theorem ofV_string (s : ByteArray) : ofV (.string s) = .v (.string s) := rfl
theorem ofV_pointer (a : Option Addr) : ofV (.pointer a) = .v (.pointer a) := rfl
theorem ofV_nil : ofV (.slice none 0 0) = .nil_ := rfl
theorem ofV_agg (cs : Array Value) : ofV (.agg cs) = .agg (cs.toList.map ofC) := rfl
theorem ofV_nilFunc : ofV .nilFunc = .v .nilFunc := rfl
theorem ofV_nilIface : ofV .nilIface = .v .nilIface := rfl
theorem vbt {p : Prop} [Decidable p] (h : p) : Value.bool (decide p) = .bool true := by simp [h]
theorem vbf {p : Prop} [Decidable p] (h : ¬ p) : Value.bool (decide p) = .bool false := by simp [h]
theorem vnt {p : Prop} [Decidable p] (h : ¬ p) : Value.bool (!decide p) = .bool true := by simp [h]
theorem vnf {p : Prop} [Decidable p] (h : p) : Value.bool (!decide p) = .bool false := by simp [h]
theorem vi64 {n : Int} (h : -9223372036854775808 ≤ n ∧ n ≤ 9223372036854775807) : Value.int .i64 (IntKind.i64.wrap n) = .int .i64 n := by rw [IntWalk.i64_in n h]
theorem vu64 {n : Int} (h : 0 ≤ n ∧ n ≤ 18446744073709551615) : Value.int .u64 (IntKind.u64.wrap n) = .int .u64 n := by rw [IntWalk.u64_in n h]
theorem vu8 {n : Int} (h : 0 ≤ n ∧ n ≤ 255) : Value.int .u8 (IntKind.u8.wrap n) = .int .u8 n := by rw [IntWalk.u8_in n h]
theorem vu32 {n : Int} (h : 0 ≤ n ∧ n ≤ 4294967295) : Value.int .u32 (IntKind.u32.wrap n) = .int .u32 n := by rw [IntWalk.u32_in n h]
theorem vi32 {n : Int} (h : -2147483648 ≤ n ∧ n ≤ 2147483647) : Value.int .i32 (IntKind.i32.wrap n) = .int .i32 n := by rw [IntWalk.i32_in n h]
end Go.Proofs.Ytmhmldpccccjbaa
