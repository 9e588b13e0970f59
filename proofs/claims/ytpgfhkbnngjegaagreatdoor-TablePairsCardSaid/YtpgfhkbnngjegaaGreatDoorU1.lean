/- States by what was written last: values that bear their own proof that no local block is spoken of. No condition. -/
import Derived.Test.YtpgfhkbnngjegaaGreatDoorU0
namespace Go.Proofs.YtpgfhkbnngjegaaGreatDoor
open Go.RowKit
set_option linter.unusedVariables false
set_option linter.unusedSimpArgs false

/-- No local block is spoken of. -/
structure Nl (t : TV) : Prop where
  k : ∀ p, kp p t = t
  f : ∀ j x, fz j x t = t
structure NlL (ts : List TV) : Prop where
  k : ∀ p, kpL p ts = ts
  f : ∀ j x, fzL j x ts = ts
structure NlLL (els : List (List TV)) : Prop where
  k : ∀ p, kpLL p els = els
  f : ∀ j x, fzLL j x els = els
theorem nlv (x : Value) : Nl (.v x) := ⟨fun _ => rfl, fun _ _ => rfl⟩
theorem nlnil : Nl .nil_ := ⟨fun _ => rfl, fun _ _ => rfl⟩
theorem NlL.nil : NlL [] := ⟨fun _ => rfl, fun _ _ => rfl⟩
theorem NlLL.nil : NlLL [] := ⟨fun _ => rfl, fun _ _ => rfl⟩
theorem NlL.cons {t : TV} {ts : List TV} (h : Nl t) (h2 : NlL ts) : NlL (t :: ts) := ⟨fun p => by simp only [kpL, h.k, h2.k], fun j x => by simp only [fzL, h.f, h2.f]⟩
theorem NlLL.cons {t : List TV} {ts : List (List TV)} (h : NlL t) (h2 : NlLL ts) : NlLL (t :: ts) := ⟨fun p => by simp only [kpLL, h.k, h2.k], fun j x => by simp only [fzLL, h.f, h2.f]⟩
theorem NlL.head {t : TV} {ts : List TV} (h : NlL (t :: ts)) : Nl t := ⟨fun p => by have := h.k p; simp only [kpL, List.cons.injEq] at this; exact this.1, fun j x => by have := h.f j x; simp only [fzL, List.cons.injEq] at this; exact this.1⟩
theorem NlL.tail {t : TV} {ts : List TV} (h : NlL (t :: ts)) : NlL ts := ⟨fun p => by have := h.k p; simp only [kpL, List.cons.injEq] at this; exact this.2, fun j x => by have := h.f j x; simp only [fzL, List.cons.injEq] at this; exact this.2⟩
theorem NlLL.head {t : List TV} {ts : List (List TV)} (h : NlLL (t :: ts)) : NlL t := ⟨fun p => by have := h.k p; simp only [kpLL, List.cons.injEq] at this; exact this.1, fun j x => by have := h.f j x; simp only [fzLL, List.cons.injEq] at this; exact this.1⟩
theorem NlLL.tail {t : List TV} {ts : List (List TV)} (h : NlLL (t :: ts)) : NlLL ts := ⟨fun p => by have := h.k p; simp only [kpLL, List.cons.injEq] at this; exact this.2, fun j x => by have := h.f j x; simp only [fzLL, List.cons.injEq] at this; exact this.2⟩
theorem NlLL.at_ : ∀ {els : List (List TV)} {j : Nat} {c : List TV}, NlLL els → els[j]? = some c → NlL c
  | [], j, c, _, e => by simp at e
  | t :: ts, 0, c, h, e => by simp only [List.getElem?_cons_zero, Option.some.injEq] at e; subst e; exact h.head
  | t :: ts, j + 1, c, h, e => by simp only [List.getElem?_cons_succ] at e; exact NlLL.at_ h.tail e
theorem NlLL.of_all : ∀ {els : List (List TV)}, (∀ c ∈ els, NlL c) → NlLL els
  | [], _ => .nil
  | t :: ts, h => .cons (h t (List.mem_cons_self ..)) (NlLL.of_all fun c hc => h c (List.mem_cons_of_mem _ hc))
theorem NlLL.mem {els : List (List TV)} (h : NlLL els) {c : List TV} (hc : c ∈ els) : NlL c := by
  obtain ⟨i, hi⟩ := List.getElem?_of_mem hc
  exact h.at_ hi
theorem NlLL.map {α : Type} {f : α → List TV} {l : List α} (h : ∀ x ∈ l, NlL (f x)) : NlLL (l.map f) := .of_all fun c hc => by
  obtain ⟨x, hx, rfl⟩ := List.mem_map.1 hc
  exact h x hx
theorem NlLL.append {a b : List (List TV)} (h : NlLL a) (h2 : NlLL b) : NlLL (a ++ b) := .of_all fun c hc => (List.mem_append.1 hc).elim h.mem h2.mem
theorem NlLL.take {a : List (List TV)} (h : NlLL a) (n : Nat) : NlLL (a.take n) := .of_all fun c hc => h.mem (List.mem_of_mem_take hc)
theorem NlLL.drop {a : List (List TV)} (h : NlLL a) (n : Nat) : NlLL (a.drop n) := .of_all fun c hc => h.mem (List.mem_of_mem_drop hc)
theorem NlLL.set {a : List (List TV)} (h : NlLL a) (n : Nat) {c : List TV} (h2 : NlL c) : NlLL (a.set n c) := .of_all fun c' hc => (List.mem_or_eq_of_mem_set hc).elim h.mem (fun e => e ▸ h2)
theorem NlLL.replicate (n : Nat) {c : List TV} (h2 : NlL c) : NlLL (List.replicate n c) := .of_all fun c' hc => (List.eq_of_mem_replicate hc) ▸ h2
theorem NlL.mem : ∀ {ts : List TV} {t : TV}, NlL ts → t ∈ ts → Nl t
  | [], t, _, hm => by simp at hm
  | u :: us, t, h, hm => by
    rcases List.mem_cons.1 hm with rfl | hm
    · exact h.head
    · exact NlL.mem h.tail hm
theorem NlL.of_all : ∀ {ts : List TV}, (∀ t ∈ ts, Nl t) → NlL ts
  | [], _ => .nil
  | t :: ts, h => .cons (h t (List.mem_cons_self ..)) (NlL.of_all fun c hc => h c (List.mem_cons_of_mem _ hc))
theorem NlL.append {a b : List TV} (h : NlL a) (h2 : NlL b) : NlL (a ++ b) := .of_all fun c hc => (List.mem_append.1 hc).elim h.mem h2.mem
theorem NlL.take {a : List TV} (h : NlL a) (n : Nat) : NlL (a.take n) := .of_all fun c hc => h.mem (List.mem_of_mem_take hc)
theorem NlL.drop {a : List TV} (h : NlL a) (n : Nat) : NlL (a.drop n) := .of_all fun c hc => h.mem (List.mem_of_mem_drop hc)
theorem NlL.setsV {a l : List TV} (h : NlL a) (h2 : NlL l) (off : Nat) : NlL (setsV a off l) := (h.take _).append (h2.append (h.drop _))
theorem Nl.agg {ts : List TV} (h : Nl (.agg ts)) : NlL ts := ⟨fun p => by have := h.k p; simp only [kp, TV.agg.injEq] at this; exact this, fun j x => by have := h.f j x; simp only [fz, TV.agg.injEq] at this; exact this⟩
theorem Nl.tup {ts : List TV} (h : Nl (.tup ts)) : NlL ts := ⟨fun p => by have := h.k p; simp only [kp, TV.tup.injEq] at this; exact this, fun j x => by have := h.f j x; simp only [fz, TV.tup.injEq] at this; exact this⟩
theorem Nl.sl {b : Bool} {els : List (List TV)} (h : Nl (.sl b els)) : NlLL els := ⟨fun p => by have := h.k p; simp only [kp, TV.sl.injEq, true_and] at this; exact this, fun j x => by have := h.f j x; simp only [fz, TV.sl.injEq, true_and] at this; exact this⟩
theorem Nl.eptr {ts : List TV} (h : Nl (.eptr ts)) : NlL ts := ⟨fun p => by have := h.k p; simp only [kp, TV.eptr.injEq] at this; exact this, fun j x => by have := h.f j x; simp only [fz, TV.eptr.injEq] at this; exact this⟩
theorem NlL.agg {ts : List TV} (h : NlL ts) : Nl (.agg ts) := ⟨fun p => by simp only [kp, h.k], fun j x => by simp only [fz, h.f]⟩
theorem NlL.fn {f : Fn} {ts : List TV} (h : NlL ts) : Nl (.fn f ts) := ⟨fun p => by simp only [kp, h.k], fun j x => by simp only [fz, h.f]⟩
theorem NlL.eptr {ts : List TV} (h : NlL ts) : Nl (.eptr ts) := ⟨fun p => by simp only [kp, h.k], fun j x => by simp only [fz, h.f]⟩
theorem NlLL.sl {b : Bool} {els : List (List TV)} (h : NlLL els) : Nl (.sl b els) := ⟨fun p => by simp only [kp, h.k], fun j x => by simp only [fz, h.f]⟩
theorem nl_ofC (x : Value) : Nl (ofC x) := by
  unfold ofC; split
  · exact nlnil
  · exact nlv _
theorem nl_ofV (x : Value) : Nl (ofV x) := by
  unfold ofV; split
  · exact NlL.agg (.of_all fun t ht => by obtain ⟨c, _, rfl⟩ := List.mem_map.1 ht; exact nl_ofC c)
  · exact nlnil
  · split
    · exact NlL.fn .nil
    · exact nlv _
  · exact nlv _

/-- A value as it is walked over. p: no local block is spoken of; rp: cell j of element k of the local row i; ag, tu, fu: structs, results of a call, functions; ow: a result that owns its row; pin: just this value, which was there at a mark and reads as t; z i: a tree in the blocks that the local block i takes; win i k sz: a local row from element k on. -/
inductive XV where
  | p (t : TV) (h : Nl t)
  | any
  | row (i : Nat)
  | ptr (i off : Nat)
  | rp (i k sz j : Nat)
  | ag (vs : List XV)
  | tu (vs : List XV)
  | fu (fn : Fn) (vs : List XV)
  | ow (e : TypeId) (sz : Nat) (els : List (List TV)) (h : NlLL els)
  | pin (u : Value) (t : TV) (h : Nl t)
  | z (i : Nat) (t : TV) (h : Nl t)
  | win (i k sz : Nat)
  deriving Inhabited
mutual
def XV.den : XV → TV
  | .p t _ => t
  | .any => .any
  | .row i => .row i
  | .ptr i off => .ptr i off
  | .rp i k sz j => .ptr i (k * sz + j)
  | .ag vs => .agg (XV.denL vs)
  | .tu vs => .tup (XV.denL vs)
  | .fu fn vs => .fn fn (XV.denL vs)
  | .ow e sz els _ => .osl e sz els
  | .pin u _ _ => .v u
  | .z i t _ => .z i t
  | .win i k sz => .win i k sz
def XV.denL : List XV → List TV
  | [] => []
  | v :: vs => v.den :: XV.denL vs
end
theorem denL_map : ∀ vs : List XV, XV.denL vs = vs.map XV.den
  | [] => rfl
  | v :: vs => by simp [XV.denL, denL_map vs]
abbrev Env := List (Nat × XV)
def look : Env → Nat → XV
  | [], _ => .any
  | x :: r, d => match Nat.beq x.1 d with
    | true => x.2
    | false => look r d
def toL (n : Nat) (e : Env) : List TV := (List.range n).map fun d => (look e d).den
theorem toL_len (n : Nat) (e : Env) : (toL n e).length = n := by simp [toL]
theorem look_same (e : Env) (d : Nat) (v : XV) : look ((d, v) :: e) d = v := by simp [look]
theorem look_ne (e : Env) {d d' : Nat} (v : XV) (h : d ≠ d') : look ((d, v) :: e) d' = look e d' := by
  have : Nat.beq d d' = false := by
    cases hb : Nat.beq d d' with
    | false => rfl
    | true => exact absurd (Nat.eq_of_beq_eq_true hb) h
  simp [look, this]
theorem toL_set {n d : Nat} (e : Env) (v : XV) (h : d < n) : toL n ((d, v) :: e) = (toL n e).set d v.den := by
  apply List.ext_getElem?
  intro i
  simp only [toL, List.getElem?_map, List.getElem?_set, List.length_map, List.length_range]
  by_cases hi : d = i
  · subst hi
    simp [look_same, h]
  · simp only [hi, if_false]
    cases hr : (List.range n)[i]? with
    | none => rfl
    | some j =>
      obtain ⟨hj, rfl⟩ := List.getElem?_eq_some_iff.1 hr
      simp only [List.getElem_range, Option.map_some, look_ne e v hi]
theorem toL_get {n d : Nat} (e : Env) (h : d < n) : (toL n e).getD d .any = (look e d).den := by simp [toL, List.getD, h]
theorem toL_get? {n d : Nat} (e : Env) (h : d < n) : (toL n e)[d]? = some (look e d).den := by simp [toL, h]
def xc1 : Value → XV
  | .int k n => .p (.v (.int k n)) (nlv _)
  | .bool b => .p (.v (.bool b)) (nlv _)
  | .string s => .p (.v (.string s)) (nlv _)
  | .slice none 0 0 => .p .nil_ nlnil
  | x => .p (ofC x) (nl_ofC x)
theorem xc1_den (x : Value) : (xc1 x).den = ofC x := by
  unfold xc1; split <;> rfl
def xc : Value → XV
  | .agg cs => .ag (cs.toList.map xc1)
  | .int k n => .p (.v (.int k n)) (nlv _)
  | .bool b => .p (.v (.bool b)) (nlv _)
  | .string s => .p (.v (.string s)) (nlv _)
  | .slice none 0 0 => .p .nil_ nlnil
  | x => .p (ofV x) (nl_ofV x)
theorem xc_den (x : Value) : (xc x).den = ofV x := by
  unfold xc; split
  · simp only [XV.den, ofV, denL_map, List.map_map]
    congr 1
    exact List.map_congr_left fun c _ => xc1_den c
  all_goals rfl
def xev (n : Nat) (e : Env) : Operand → XV
  | .tmp t => match Nat.blt t n with
    | true => look e t
    | false => .any
  | .const x => xc x
  | .global g => .p (.v (.pointer (some ⟨g, 0, none⟩))) (nlv _)
  | .func f => .fu (.func f) []
theorem xev_den (n : Nat) (e : Env) (x : Operand) : (xev n e x).den = tev (toL n e) x := by
  cases x with
  | tmp t =>
    simp only [xev, tev]
    cases hb : Nat.blt t n with
    | true => exact (toL_get e (Nat.blt_eq.mp hb)).symm
    | false =>
      have : ¬ t < n := by
        intro h
        have := Nat.blt_eq.mpr h
        rw [hb] at this; cases this
      have h2 : (toL n e)[t]? = none := List.getElem?_eq_none (by rw [toL_len]; exact Nat.le_of_not_lt this)
      simp only [List.getD, h2]
      rfl
  | const x => exact xc_den x
  | global g => rfl
  | func f => rfl
/-- A local block; rowF: a row of which one element is held by its cells, which may speak of local blocks. -/
inductive XLB where
  | none
  | cells (t : TypeId) (cs : List XV)
  | row (e : TypeId) (sz : Nat) (els : List (List TV)) (h : NlLL els)
  | ext (x : Ext)
  | rowF (e : TypeId) (sz : Nat) (pre : List (List TV)) (hp : NlLL pre) (cs : List XV) (post : List (List TV)) (hq : NlLL post)
  deriving Inhabited
def XLB.den : XLB → LB
  | .none => .none
  | .cells t cs => .cells t (XV.denL cs)
  | .row e sz els _ => .row e sz els
  | .ext x => .ext x
  | .rowF e sz pre _ cs post _ => .row e sz (pre ++ XV.denL cs :: post)
def hget : List XLB → Nat → XLB
  | [], _ => .none
  | x :: r, i => match i with
    | 0 => x
    | i + 1 => hget r i
theorem hget_den : ∀ (h : List XLB) (i : Nat), (hget h i).den = hf (h.map XLB.den) i
  | [], i => rfl
  | x :: r, 0 => rfl
  | x :: r, i + 1 => by
    have := hget_den r i
    simpa [hget, hf] using this
/-- Frames that wait for a call's end. -/
def denG : List (Nat × Env) → List TV
  | [] => []
  | f :: r => toL f.1 f.2 ++ denG r
def xst (n : Nat) (e : Env) (h : List XLB) (g : List (Nat × Env)) : St := ⟨toL n e, h.map XLB.den, denG g⟩

/-- A value of a known head. -/
def fv (v : XV) (k : XV → Prop) : Prop := match v with
  | .p t h => k (.p t h)
  | .any => k .any
  | .row i => k (.row i)
  | .ptr i off => k (.ptr i off)
  | .rp i m sz j => k (.rp i m sz j)
  | .ag vs => k (.ag vs)
  | .tu vs => k (.tu vs)
  | .fu fn vs => k (.fu fn vs)
  | .ow e sz els h => k (.ow e sz els h)
  | .pin u t h => k (.pin u t h)
  | .z i t h => k (.z i t h)
  | .win i m sz => k (.win i m sz)
theorem fv_ok {v : XV} {k : XV → Prop} (h : fv v k) : k v := by
  cases v <;> exact h
def forceE : Env → (Env → Prop) → Prop
  | [], k => k []
  | (d, v) :: r, k => fv v fun v => forceE r fun r' => k ((d, v) :: r')
theorem forceE_ok : ∀ {e : Env} {k : Env → Prop}, forceE e k → k e
  | [], _, h => h
  | (d, v) :: r, k, h => forceE_ok (k := fun r' => k ((d, v) :: r')) (fv_ok h)
def forceV : List XV → (List XV → Prop) → Prop
  | [], k => k []
  | x :: r, k => fv x fun v => forceV r fun r' => k (v :: r')
theorem forceV_ok : ∀ {e : List XV} {k : List XV → Prop}, forceV e k → k e
  | [], _, h => h
  | x :: r, k, h => forceV_ok (k := fun r' => k (x :: r')) (fv_ok h)
def forceB (b : XLB) (k : XLB → Prop) : Prop := match b with
  | .none => k .none
  | .cells t cs => forceV cs fun cs' => k (.cells t cs')
  | .row e sz els h => k (.row e sz els h)
  | .ext x => k (.ext x)
  | .rowF e sz pre hp cs post hq => forceV cs fun cs' => k (.rowF e sz pre hp cs' post hq)
theorem forceB_ok {b : XLB} {k : XLB → Prop} (h : forceB b k) : k b := by
  cases b with
  | none => exact h
  | cells t cs => exact forceV_ok (k := fun cs' => k (.cells t cs')) h
  | row e sz els h' => exact h
  | ext x => exact h
  | rowF e sz pre hp cs post hq => exact forceV_ok (k := fun cs' => k (.rowF e sz pre hp cs' post hq)) h
def forceH : List XLB → (List XLB → Prop) → Prop
  | [], k => k []
  | x :: r, k => forceB x fun v => forceH r fun r' => k (v :: r')
theorem forceH_ok : ∀ {e : List XLB} {k : List XLB → Prop}, forceH e k → k e
  | [], _, h => h
  | x :: r, k, h => forceH_ok (k := fun r' => k (x :: r')) (forceB_ok h)
def forceG : List (Nat × Env) → (List (Nat × Env) → Prop) → Prop
  | [], k => k []
  | (n, e) :: r, k => forceE e fun v => forceG r fun r' => k ((n, v) :: r')
theorem forceG_ok : ∀ {e : List (Nat × Env)} {k : List (Nat × Env) → Prop}, forceG e k → k e
  | [], _, h => h
  | (n, e) :: r, k, h => forceG_ok (k := fun r' => k ((n, e) :: r')) (forceE_ok h)
/-- A choice by a truth that may be unknown. -/
def bcase (b : Bool) (p q : Prop) : Prop := match b with
  | true => p
  | false => q
theorem bT {b : Bool} {p q : Prop} (h : b = true) (hp : p) : bcase b p q := by subst h; exact hp
theorem bF {b : Bool} {p q : Prop} (h : b = false) (hq : q) : bcase b p q := by subst h; exact hq
theorem bS {b : Bool} {p q : Prop} (hp : b = true → p) (hq : b = false → q) : bcase b p q := by
  cases b
  · exact hq rfl
  · exact hp rfl
theorem bcase_no {b : Bool} {p : Prop} (h : bcase b False p) : b = false ∧ p := by
  cases b
  · exact ⟨rfl, h⟩
  · exact h.elim
theorem bcase_yes {b : Bool} {p : Prop} (h : bcase b p False) : b = true ∧ p := by
  cases b
  · exact h.elim
  · exact ⟨rfl, h⟩
/-- The components of a struct that no local block is spoken of in. -/
def unp : (ts : List TV) → NlL ts → List XV
  | [], _ => []
  | t :: ts, h => .p t h.head :: unp ts h.tail
theorem unp_den : ∀ (ts : List TV) (h : NlL ts), XV.denL (unp ts h) = ts
  | [], _ => rfl
  | t :: ts, h => by simp [unp, XV.denL, XV.den, unp_den ts h.tail]
def unpK : (ts : List TV) → NlL ts → (List XV → Prop) → Prop
  | [], _, k => k []
  | t :: ts, h, k => unpK ts h.tail fun vs => k (.p t h.head :: vs)
theorem unpK_ok : ∀ {ts : List TV} {h : NlL ts} {k : List XV → Prop}, unpK ts h k → k (unp ts h)
  | [], _, _, h => h
  | t :: ts, h, k, hh => unpK_ok (k := fun vs => k (.p t h.head :: vs)) hh
def takeK {α : Type} : Nat → List α → (List α → Prop) → Prop
  | 0, _, k => k []
  | _ + 1, [], k => k []
  | n + 1, x :: xs, k => takeK n xs fun l => k (x :: l)
theorem takeK_ok {α : Type} : ∀ {n : Nat} {l : List α} {k : List α → Prop}, takeK n l k → k (l.take n)
  | 0, _, _, h => by simpa [takeK] using h
  | _ + 1, [], _, h => by simpa [takeK] using h
  | n + 1, x :: xs, k, h => takeK_ok (k := fun l => k (x :: l)) h
def dropK {α : Type} : Nat → List α → (List α → Prop) → Prop
  | 0, l, k => k l
  | _ + 1, [], k => k []
  | n + 1, _ :: xs, k => dropK n xs k
theorem dropK_ok {α : Type} : ∀ {n : Nat} {l : List α} {k : List α → Prop}, dropK n l k → k (l.drop n)
  | 0, _, _, h => h
  | _ + 1, [], _, h => by simpa [dropK] using h
  | n + 1, x :: xs, k, h => by
    have h' : dropK n xs k := h
    exact dropK_ok (n := n) (l := xs) (k := k) h'
def appK {α : Type} : List α → List α → (List α → Prop) → Prop
  | [], b, k => k b
  | x :: xs, b, k => appK xs b fun l => k (x :: l)
theorem appK_ok {α : Type} : ∀ {a b : List α} {k : List α → Prop}, appK a b k → k (a ++ b)
  | [], _, _, h => h
  | x :: xs, b, k, h => appK_ok (k := fun l => k (x :: l)) h
def setK {α : Type} : List α → Nat → α → (List α → Prop) → Prop
  | [], _, _, k => k []
  | _ :: xs, 0, y, k => k (y :: xs)
  | x :: xs, n + 1, y, k => setK xs n y fun l => k (x :: l)
theorem setK_ok {α : Type} : ∀ {a : List α} {n : Nat} {y : α} {k : List α → Prop}, setK a n y k → k (a.set n y)
  | [], _, _, _, h => h
  | _ :: xs, 0, y, _, h => h
  | x :: xs, n + 1, y, k, h => setK_ok (k := fun l => k (x :: l)) h
def nums : List Nat := [0, 1, 2, 3, 4, 5, 6, 7, 8, 9, 10, 11, 12, 13, 14, 15, 16, 17, 18, 19, 20, 21, 22, 23, 24, 25, 26, 27, 28, 29, 30, 31, 32, 33, 34, 35, 36, 37, 38, 39, 40, 41, 42, 43, 44, 45, 46, 47, 48, 49, 50, 51, 52, 53, 54, 55, 56, 57, 58, 59, 60, 61, 62, 63, 64, 65, 66, 67, 68, 69, 70, 71, 72, 73, 74, 75, 76, 77, 78, 79, 80, 81, 82, 83, 84, 85, 86, 87, 88, 89, 90, 91, 92, 93, 94, 95, 96, 97, 98, 99]
def lenG {α : Type} : List α → List Nat → (Nat → Prop) → Prop
  | [], c :: _, k => k c
  | _ :: l, _ :: cs, k => lenG l cs k
  | _, [], _ => False
def lenK {α : Type} (l : List α) (k : Nat → Prop) : Prop := lenG l nums k
theorem lenG_ok {α : Type} : ∀ {l : List α} {s m : Nat} {k : Nat → Prop}, lenG l (List.range' s m) k → k (s + l.length)
  | [], s, 0, k, h => h.elim
  | [], s, m + 1, k, h => h
  | _ :: l, s, 0, k, h => h.elim
  | _ :: l, s, m + 1, k, h => by
    have := lenG_ok (l := l) (s := s + 1) (m := m) h
    rw [List.length_cons]
    rwa [show s + (l.length + 1) = s + 1 + l.length by omega]
theorem lenK_ok {α : Type} {l : List α} {k : Nat → Prop} (h : lenK l k) : k l.length := by
  have e : nums = List.range' 0 100 := by decide
  unfold lenK at h
  rw [e] at h
  have := lenG_ok h
  rwa [Nat.zero_add] at this
/-- Cells that are written over others, from a place on. -/
def putsK {α : Type} : List α → Nat → List α → (List α → Prop) → Prop
  | cs, 0, l, k => dropK l.length cs fun r => appK l r k
  | [], _ + 1, _, _ => False
  | c :: cs, n + 1, l, k => putsK cs n l fun r => k (c :: r)
theorem putsK_ok {α : Type} : ∀ {cs : List α} {off : Nat} {l : List α} {k : List α → Prop}, putsK cs off l k → k (setsV cs off l)
  | cs, 0, l, k, h => by
    have := appK_ok (k := k) (dropK_ok (k := fun r => appK l r k) (by simpa [putsK] using h))
    simpa [setsV] using this
  | [], _ + 1, _, _, h => h.elim
  | c :: cs, n + 1, l, k, h => by
    have := putsK_ok (k := fun r => k (c :: r)) h
    have e : setsV (c :: cs) (n + 1) l = c :: setsV cs n l := by
      simp only [setsV, List.take_succ_cons, List.cons_append]
      rw [show n + 1 + l.length = (n + l.length) + 1 by omega, List.drop_succ_cons]
    rw [e]; exact this
theorem denL_setsV (cs : List XV) (off : Nat) (l : List XV) : XV.denL (setsV cs off l) = setsV (XV.denL cs) off (XV.denL l) := by
  simp [denL_map, setsV, List.map_append, List.map_take, List.map_drop]
end Go.Proofs.YtpgfhkbnngjegaaGreatDoor
