/- A region that draws its order and appends to a local row: the append waits for all ahead of it in the text; what stands behind it and ahead of the stores are addresses alone. Condition: the edges that the text says. -/
import Derived.Test.YtmhmldpccccjbaaT10
namespace Go.Proofs.Ytmhmldpccccjbaa
open Go.RowKit
set_option linter.unusedVariables false
set_option linter.unusedSimpArgs false

/-- Operations that reckon out of slots alone, and do not speak of the row i. -/
def TPu (P : Program) (B : Nat) (w0 : World) (i : Nat) : List Oper → List TV → (List TV → Prop) → Prop
  | [], s, K => K s
  | o :: rest, s, K => ∃ tv, o.guard = none ∧ TStep P B w0 [] s o tv none ∧ (∀ x ∈ o.op.operands.toList, kp (bar i) (tev s x) = tev s x) ∧ kp (bar i) tv = tv ∧ TPu P B w0 i rest (putO s o.dst tv) K
theorem TPu.st {P : Program} {B : Nat} {w0 : World} {i : Nat} {o : Oper} {rest : List Oper} {s : List TV} {K : List TV → Prop} {tv : TV} (hg : o.guard = none) (hs : TStep P B w0 [] s o tv none) (hx : ∀ x ∈ o.op.operands.toList, kp (bar i) (tev s x) = tev s x) (hv : kp (bar i) tv = tv)
    (h : ∀ s', s' = putO s o.dst tv → TPu P B w0 i rest s' K) : TPu P B w0 i (o :: rest) s K := ⟨tv, hg, hs, hx, hv, h _ rfl⟩
theorem TStep.weak {P : Program} {B : Nat} {w0 : World} {h : List LB} {s : List TV} {o : Oper} {tv : TV} (H : TStep P B w0 [] s o tv none) : TStep P B w0 h s o tv none := by
  intro ρ h' w a _ _ R hx K Q hK
  exact H ρ h' w a (fun i hi => absurd hi (by simp)) (fun h => by cases h) R hx K Q fun u w' ρ' R' KK hb hd => hK u w' ρ' R' KK hb hd

/-- Each of the first n has one behind it, up to n, that waits for it. -/
def covB (l : List Oper) (n : Nat) : Bool := (List.range n).all fun i => (List.range (n + 1)).any fun j => decide (i < j) && match l[j]? with
  | some o => o.after.any fun e => decide (e.on = i) && Region.binds .any e
  | none => false
theorem covB_spec {l : List Oper} {n : Nat} (h : covB l n = true) {i : Nat} (hi : i < n) : ∃ j o, i < j ∧ j ≤ n ∧ l[j]? = some o ∧ ∃ e ∈ o.after, e.on = i ∧ Region.binds .any e = true := by
  have h1 := List.all_eq_true.1 h i (List.mem_range.2 hi)
  obtain ⟨j, hj, h2⟩ := List.any_eq_true.1 h1
  simp only [Bool.and_eq_true, decide_eq_true_eq] at h2
  obtain ⟨h3, h4⟩ := h2
  split at h4
  · rename_i o ho
    obtain ⟨k, hk, h6⟩ := Array.any_eq_true.1 h4
    simp only [Bool.and_eq_true, decide_eq_true_eq] at h6
    have := List.mem_range.1 hj
    exact ⟨j, o, h3, by omega, ho, _, Array.getElem_mem hk, h6.1, h6.2⟩
  · cases h4
theorem cov_listed {l : List Oper} {n N : Nat} (h : covB l n = true) {listed : Array Bool} (inv : HeadInv .any l.toArray N listed) (hn : ∀ o, l[n]? = some o → ∀ e ∈ o.after, Region.binds .any e = true → listed.getD e.on false = true) : ∀ d i, i + d = n → 0 < d → listed.getD i false = true := by
  intro d
  induction d using Nat.strongRecOn with
  | _ d ih =>
    intro i hid hd
    obtain ⟨j, o, h1, h2, h3, e, h4, h5, h6⟩ := covB_spec h (show i < n by omega)
    rcases Nat.lt_or_ge j n with h7 | h7
    · have := ih (n - j) (by omega) j (by omega) (by omega)
      rw [← h5]
      exact inv.closed j o (by simpa using h3) this e h4 h6
    · have : j = n := by omega
      subst this
      rw [← h5]
      exact hn o h3 e h4 h6

def ixA (n : Nat) : Nat → Nat := fun p => if p < n then p else p + 1
/-- What the slots and edges must say. -/
def appB (l : List Oper) (n k da : Nat) : Bool :=
  let m := l.take n ++ (l.drop (n + 1)).take k
  backB l.toArray && decide (n + 1 + k ≤ l.length) && parB l m (ixA n) && covB l n &&
  (m.all fun o => !(readsOf l o).contains da && !(o.dst == some da)) &&
  (match l[n]? with
    | some o => o.dst == some da && (tmpsOf o.op.operands.toList).all fun t => ((l.drop (n + 1)).take k).all fun p => !(p.dst == some t)
    | none => false) &&
  (decide (n + 1 + k = l.length) || (decide (n + 1 + k < l.length) && Region.sinkB .any l.toArray (n + 1 + k) && Region.chainB .any l.toArray (n + 1 + k) && Region.seqB .any l.toArray (l.length - (n + 1 + k)) (n + 1 + k) (headOf (n + 1 + k) l.length)))

section
variable {P : Program} {B : Nat} {w0 : World} {gh : List Value} {l : List Oper}
theorem kpL_getD (p : Nat → Bool) : ∀ (s : List TV) (t : Nat), (kpL p s).getD t .any = kp p (s.getD t .any)
  | [], t => by simp [kpL, kp]
  | x :: s, 0 => by simp [kpL]
  | x :: s, t + 1 => by simpa [kpL] using kpL_getD p s t
theorem kpL_len (p : Nat → Bool) : ∀ s : List TV, (kpL p s).length = s.length
  | [] => rfl
  | x :: s => by simp [kpL, kpL_len p s]
theorem upon_mono2 {o : Oper} {a : Act} {w : World} {K K' : Act → World → Prop} {Q Q' : Exit → Act → World → Prop} (h : ∀ a w, K a w → K' a w) (hq : ∀ e a w, e ≠ .normal → Q e a w → Q' e a w) (hh : o.wp P a w K Q) : o.wp P a w K' Q' := by
  unfold Oper.wp at *
  generalize (execOp a.eval o).run P w = r at *
  cases r with
  | halt x w' => cases x <;> simp only [Oper.upon] at hh ⊢ <;> first | exact hq _ _ _ (by simp) hh | exact hh
  | ok x w' =>
    cases x <;> simp only [Oper.upon] at hh ⊢ <;> first
      | exact h _ _ hh
      | exact hh
      | (refine hh.mono ?_
         intro e w'' he
         cases e <;> first | exact h _ _ he | exact hq _ _ _ (by simp) he | (obtain ⟨a1, w1, h1⟩ := he; exact ⟨a1, w1, hq _ _ _ (by simp) h1⟩))
      | (refine hh.mono ?_
         intro v w'' he
         exact h _ _ he)

/-- A run of operations that reckon out of slots alone: each one's facts. -/
theorem tpu_facts {i : Nat} : ∀ (rest : List Oper) (s : List TV) (K : List TV → Prop), TPu P B w0 i rest s K →
    ∃ (S : Nat → List TV) (V : Nat → TV), S 0 = s ∧ K (S rest.length) ∧ ∀ p o, rest[p]? = some o → o.guard = none ∧ TStep P B w0 [] (S p) o (V p) none ∧ (∀ x ∈ o.op.operands.toList, kp (bar i) (tev (S p) x) = tev (S p) x) ∧ kp (bar i) (V p) = V p ∧ S (p + 1) = putO (S p) o.dst (V p)
  | [], s, K, hp => ⟨fun _ => s, fun _ => .any, rfl, hp, fun p o h => (by simp at h)⟩
  | o :: rest, s, K, ⟨tv, h1, h2, h3, h4, h5⟩ => by
    obtain ⟨S, V, e1, e2, e3⟩ := tpu_facts rest _ K h5
    refine ⟨fun p => match p with | 0 => s | p + 1 => S p, fun p => match p with | 0 => tv | p + 1 => V p, rfl, e2, fun p o' ho => ?_⟩
    cases p with
    | zero =>
      simp only [List.getElem?_cons_zero, Option.some.injEq] at ho
      subst ho
      exact ⟨h1, h2, h3, h4, e1⟩
    | succ p =>
      simp only [List.getElem?_cons_succ] at ho
      exact e3 p o' ho

/-- The run of the first n, then of those behind the append. -/
theorem runs_join {m2 : List Oper} {i : Nat} {K : List TV → List LB → Prop} : ∀ (m1 : List Oper) (s : List TV) (h : List LB), (TPar P B w0 l m1 s h fun s h => TPu P B w0 i m2 s fun s => K s h) →
    ∃ (S : Nat → List TV) (H : Nat → List LB) (V : Nat → TV) (N : Nat → Option LB) (b : Nat → Bool), Runs P B w0 l (m1 ++ m2) S H V N b (fun _ => false) ∧ S 0 = s ∧ H 0 = h ∧ K (S (m1 ++ m2).length) (H (m1 ++ m2).length) ∧
      ∀ p o, m1.length ≤ p → (m1 ++ m2)[p]? = some o → o.guard = none ∧ TStep P B w0 [] (S p) o (V p) none ∧ (∀ x ∈ o.op.operands.toList, kp (bar i) (tev (S p) x) = tev (S p) x) ∧ kp (bar i) (V p) = V p ∧ N p = none ∧ b p = true
  | [], s, h, hp => by
    obtain ⟨S, V, e1, e2, e3⟩ := tpu_facts m2 s _ hp
    refine ⟨S, fun _ => h, V, fun _ => none, fun _ => true, ⟨fun p o hpl ho => ?_⟩, e1, rfl, by simpa using e2, fun p o _ ho => ?_⟩
    · obtain ⟨h1, h2, h3, h4, h5⟩ := e3 p o (by simpa using ho)
      exact ⟨by simp [Wants, h1], fun _ _ => h2.weak, fun h => (by cases h), h5, rfl⟩
    · obtain ⟨h1, h2, h3, h4, h5⟩ := e3 p o (by simpa using ho)
      exact ⟨h1, h2, h3, h4, rfl, rfl⟩
  | o :: m1, s, h, ⟨tv, new, b0, h1, h2, h3, h4⟩ => by
    obtain ⟨S, H, V, N, b, e1, e2, e3, e4, e5⟩ := runs_join m1 _ _ h4
    refine ⟨fun i => match i with | 0 => s | i + 1 => S i, fun i => match i with | 0 => h | i + 1 => H i, fun i => match i with | 0 => tv | i + 1 => V i, fun i => match i with | 0 => new | i + 1 => N i, fun i => match i with | 0 => b0 | i + 1 => b i, ⟨fun p o' hpl ho => ?_⟩, rfl, rfl, e4, fun p o' hpl ho => ?_⟩
    · cases p with
      | zero =>
        simp only [List.cons_append, List.getElem?_cons_zero, Option.some.injEq] at ho
        subst ho
        exact ⟨h1, fun hb _ => h2 hb, h3, e2, e3⟩
      | succ p =>
        simp only [List.cons_append, List.getElem?_cons_succ] at ho
        exact e1.step p o' (by simpa using hpl) ho
    · cases p with
      | zero => simp at hpl
      | succ p =>
        simp only [List.cons_append, List.getElem?_cons_succ] at ho
        exact e5 p o' (by simpa using hpl) ho

/-- The slots, those of pure operations that have not run untold. -/
def holes (m : List Oper) (n : Nat) (ix : Nat → Nat) (listed : Array Bool) (s : List TV) : List TV :=
  (List.range s.length).map fun t => if ∃ p, p < m.length ∧ (n ≤ p ∧ (m[p]?).bind (·.dst) = some t ∧ listed.getD (ix p) false = false) then .any else s.getD t .any
theorem holes_len (m : List Oper) (n : Nat) (ix : Nat → Nat) (listed : Array Bool) (s : List TV) : (holes m n ix listed s).length = s.length := by simp [holes]
theorem holes_at {m : List Oper} {n : Nat} {ix : Nat → Nat} {listed : Array Bool} {s : List TV} {t : Nat} (h : ∀ p o, n ≤ p → m[p]? = some o → o.dst = some t → listed.getD (ix p) false = true) : (holes m n ix listed s).getD t .any = s.getD t .any := by
  unfold holes
  have hno : ¬ ∃ p, p < m.length ∧ (n ≤ p ∧ (m[p]?).bind (·.dst) = some t ∧ listed.getD (ix p) false = false) := by
    rintro ⟨p, h0, h1, h2, h3⟩
    cases hm : m[p]? with
    | none => rw [hm] at h2; cases h2
    | some o =>
      rw [hm] at h2
      rw [h p o h1 hm h2] at h3
      cases h3
  rcases Nat.lt_or_ge t s.length with ht | ht
  · rw [List.getD_eq_getElem?_getD, List.getElem?_map, List.getElem?_range ht]
    simp only [Option.map_some, Option.getD_some]
    rw [if_neg hno]
  · simp [List.getD, List.getElem?_eq_none ht, ht]
theorem holes_get {m : List Oper} {n : Nat} {ix : Nat → Nat} {listed : Array Bool} {s : List TV} {t : Nat} {x : TV} (h : (holes m n ix listed s)[t]? = some x) : x = .any ∨ ((∀ p o, n ≤ p → m[p]? = some o → o.dst = some t → listed.getD (ix p) false = true) ∧ s[t]? = some x) := by
  unfold holes at h
  rw [List.getElem?_map, Option.map_eq_some_iff] at h
  obtain ⟨t', h1, h2⟩ := h
  have ht := (List.getElem?_eq_some_iff.1 h1).1
  have h3 := (List.getElem?_eq_some_iff.1 h1).2
  simp only [List.getElem_range] at h3
  subst h3
  simp only [List.length_range] at ht
  split at h2
  · exact .inl h2.symm
  · rename_i hno
    refine .inr ⟨fun p o hp ho hd => ?_, ?_⟩
    · cases hl : listed.getD (ix p) false with
      | true => rfl
      | false => exact absurd ⟨p, (List.getElem?_eq_some_iff.1 ho).1, hp, by rw [ho]; exact hd, hl⟩ hno
    · rw [← h2]
      simp [List.getD, ht]
theorem tev_holes {m : List Oper} {n : Nat} {ix : Nat → Nat} {listed : Array Bool} {s : List TV} {x : Operand} (h : ∀ t, x = .tmp t → ∀ p o, n ≤ p → m[p]? = some o → o.dst = some t → listed.getD (ix p) false = true) : tev (holes m n ix listed s) x = tev s x := by
  cases x with
  | tmp t => exact holes_at (h t rfl)
  | const v => rfl
  | global g => rfl
  | func f => rfl

/-- What holds behind the append. -/
structure PB (B : Nat) (w0 : World) (gh : List Value) (m : List Oper) (n : Nat) (ix : Nat → Nat) (s : List TV) (h : List LB) (g : List TV) (listed : Array Bool) (a : Act) (w : World) : Prop where
  ex : ∃ ρ, Rel B w0 ρ (hf h) w ∧ DnL (cxOf B ρ (hf h) w) g gh ∧ a.tmps.size = s.length ∧ a.defers = [] ∧
    ∀ (t : Nat) (u : Value), a.tmps[t]? = some u → (∀ p o, n ≤ p → m[p]? = some o → o.dst = some t → listed.getD (ix p) false = true) → Dn (cxOf B ρ (hf h) w) (s.getD t .any) u

end
end Go.Proofs.Ytmhmldpccccjbaa
