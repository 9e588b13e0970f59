/- A drawn region in which a copy of a slot may come behind a store: it may be thought to come ahead of it. Condition: none but what the text says. -/
import Derived.Test.YtmhmldpccccjbaaT20
import Derived.Test.YtmhmldpccccjbaaU15
namespace Go.Proofs.Ytmhmldpccccjbaa
open Go.RowKit
set_option linter.unusedVariables false
set_option linter.unusedSimpArgs false

def addW (j : Nat) (o : Oper) : Oper := { o with after := (o.after.toList ++ [({ on := j, ground := .data } : Edge)]).toArray }
/-- The operation t waits for j as well. -/
def waitL (t j : Nat) : Nat → List Oper → List Oper
  | _, [] => []
  | k, o :: l => (if Nat.beq k t then addW j o else o) :: waitL t j (k + 1) l
theorem waitL_len {t j : Nat} : ∀ {l : List Oper} {k : Nat}, (waitL t j k l).length = l.length
  | [], k => rfl
  | o :: l, k => by simp [waitL, waitL_len (l := l)]
theorem waitL_get {t j : Nat} : ∀ {l : List Oper} {k i : Nat}, (waitL t j k l)[i]? = (l[i]?).map fun o => if Nat.beq (k + i) t then addW j o else o
  | [], k, i => by simp [waitL]
  | o :: l, k, 0 => by simp [waitL]
  | o :: l, k, i + 1 => by
    rw [waitL, List.getElem?_cons_succ, waitL_get, List.getElem?_cons_succ, show k + 1 + i = k + (i + 1) by omega]
def copyB : Op → Bool
  | .move _ => true
  | .assign _ => true
  | _ => false
def waitB (l : List Oper) (t j : Nat) : Bool := !Nat.beq t j && match l[j]? with
  | some o => o.guard.isNone && copyB o.op && o.after.toList.all (fun e => !Region.binds .any e) && Region.noSelect l.toArray && Region.free .any l.toArray (Array.replicate l.length false) j
  | none => false
section
variable {P : Program} {Q : Exit → Act → World → Prop} {l : List Oper}
theorem wait_at (t j i : Nat) : (waitL t j 0 l).toArray[i]? = (l.toArray[i]?).map fun o => if Nat.beq i t then addW j o else o := by
  simp only [List.getElem?_toArray]
  rw [waitL_get, Nat.zero_add]
theorem wait_dst (t j i : Nat) : ((waitL t j 0 l).toArray[i]?).map (·.dst) = (l.toArray[i]?).map (·.dst) := by
  rw [wait_at]
  cases l.toArray[i]? with
  | none => rfl
  | some o => simp only [Option.map_some]; split <;> rfl
theorem wait_yield (t j : Nat) (tmps : Array Value) : yielded (waitL t j 0 l).toArray tmps = yielded l.toArray tmps := by
  funext i
  have := wait_dst (l := l) t j i
  unfold yielded
  cases h1 : l.toArray[i]? <;> cases h2 : (waitL t j 0 l).toArray[i]? <;> rw [h1, h2] at this <;> simp at this ⊢
  rw [this]
theorem wait_ready {t j : Nat} {A : Array Bool} (hA : A.getD j false = true) {i : Nat} : i ∈ Region.ready .any l.toArray A ↔ i ∈ Region.ready .any (waitL t j 0 l).toArray A := by
  rw [mem_ready, mem_ready, wait_at]
  constructor
  · rintro ⟨h1, o, ho, h2⟩
    refine ⟨h1, _, by rw [ho]; rfl, fun e he hb => ?_⟩
    split at he
    · simp only [addW, List.mem_toArray, List.mem_append, Array.mem_toList_iff, List.mem_singleton] at he
      rcases he with he | rfl
      · exact h2 e he hb
      · exact hA
    · exact h2 e he hb
  · rintro ⟨h1, o, ho, h2⟩
    cases h0 : l.toArray[i]? with
    | none => rw [h0] at ho; cases ho
    | some o0 =>
      rw [h0] at ho
      simp only [Option.map_some, Option.some.injEq] at ho
      refine ⟨h1, o0, rfl, fun e he hb => h2 e ?_ hb⟩
      rw [← ho]
      split
      · simp only [addW, List.mem_toArray, List.mem_append, Array.mem_toList_iff]
        exact .inl he
      · exact he
theorem wait_op {t j i : Nat} {K K' : Act → World → Prop} (hK : ∀ a w, K a w → K' a w) {a : Act} {w : World} (h : wpOp P (waitL t j 0 l).toArray Q i K a w) : wpOp P l.toArray Q i K' a w := by
  unfold wpOp at *
  rw [wait_at] at h
  cases h0 : l.toArray[i]? with
  | none => rw [h0] at h; exact hK _ _ h
  | some o =>
    rw [h0] at h
    simp only [Option.map_some] at h ⊢
    rw [wait_yield] at h
    split at h
    · rename_i hit
      split
      · rename_i hw
        rw [if_pos (by exact hw)] at h
        exact h.imp (fun h => Oper.wp_mono hK h) id
      · rename_i hw
        rw [if_neg (by exact hw)] at h
        exact hK _ _ h
    · split
      · rename_i hw
        rw [if_pos hw] at h
        exact h.imp (fun h => Oper.wp_mono hK h) id
      · rename_i hw
        rw [if_neg hw] at h
        exact hK _ _ h
theorem wpAny_wait {t j : Nat} : ∀ (fuel : Nat) (A : Array Bool) (a : Act) (w : World), A.getD j false = true → wpAny P .any (waitL t j 0 l).toArray Q fuel A a w → wpAny P .any l.toArray Q fuel A a w
  | 0, A, a, w, hA, h => by
    refine ⟨?_, h.2⟩
    rw [List.eq_nil_iff_forall_not_mem]
    intro i hi
    have := (wait_ready (t := t) hA).1 hi
    rw [h.1] at this
    cases this
  | fuel + 1, A, a, w, hA, h => by
    refine ⟨fun h0 => h.1 ?_, fun i hi => ?_⟩
    · rw [List.eq_nil_iff_forall_not_mem]
      intro i hi
      have := (wait_ready (t := t) hA).2 hi
      rw [h0] at this
      cases this
    · exact wait_op (fun a w hh => wpAny_wait fuel _ a w (getD_set_true hA) hh) (h.2 i ((wait_ready hA).1 hi))
theorem wpAny_mono2 {ops : Array Oper} {Q' : Exit → Act → World → Prop} (hn : ∀ a w, Q .normal a w → Q' .normal a w) (hq : ∀ e a w, e ≠ .normal → Q e a w → Q' e a w) : ∀ (fuel : Nat) (A : Array Bool) (a : Act) (w : World), wpAny P .any ops Q fuel A a w → wpAny P .any ops Q' fuel A a w
  | 0, A, a, w, h => ⟨h.1, hn _ _ h.2⟩
  | fuel + 1, A, a, w, h => by
    refine ⟨fun h0 => hn _ _ (h.1 h0), fun i hi => ?_⟩
    have h2 := h.2 i hi
    unfold wpOp at *
    split
    · rename_i h0; rw [h0] at h2; exact wpAny_mono2 hn hq fuel _ _ _ h2
    · rename_i o h0
      rw [h0] at h2
      simp only at h2
      split
      · rename_i hw
        rw [if_pos hw] at h2
        rcases h2 with h2 | ⟨h2, a1, w1, h3⟩
        · exact .inl (upon_mono2 (fun a w hh => wpAny_mono2 hn hq fuel _ _ _ hh) hq h2)
        · exact .inr ⟨h2, a1, w1, hq _ _ _ (by simp) h3⟩
      · rename_i hw
        rw [if_neg hw] at h2
        exact wpAny_mono2 hn hq fuel _ _ _ h2
theorem TA.wait {B : Nat} {w0 : World} {gh : List Value} {σ : St} {Q : Exit → St → Prop} (t j : Nat) (hB : waitB l t j = true) (h : TA P B w0 gh (waitL t j 0 l).toArray σ (fun e σ' => e = .normal ∧ Q .normal σ')) : TA P B w0 gh l.toArray σ Q := fun ρ a w hr => by
  have h1 := h ρ a w hr
  have e1 : (waitL t j 0 l).toArray.size = l.toArray.size := by simp [waitL_len]
  rw [e1] at h1
  unfold waitB at hB
  simp only [Bool.and_eq_true, Bool.not_eq_true'] at hB
  obtain ⟨htj, hB⟩ := hB
  cases hoj : l[j]? with
  | none => rw [hoj] at hB; cases hB
  | some o =>
    rw [hoj] at hB
    simp only [Bool.and_eq_true] at hB
    obtain ⟨⟨⟨⟨hg, hc⟩, haf⟩, hs⟩, hf⟩ := hB
    have hg : o.guard = none := Option.isNone_iff_eq_none.1 hg
    have hjl := (List.getElem?_eq_some_iff.1 hoj).1
    obtain ⟨N, hN⟩ : ∃ N, l.toArray.size = N + 1 := ⟨l.length - 1, by simp; omega⟩
    have hoa : l.toArray[j]? = some o := by simpa using hoj
    have hjt : Nat.beq j t = false := by
      cases hb : Nat.beq j t with
      | false => rfl
      | true => rw [Nat.eq_of_beq_eq_true hb] at htj; simp at htj
    have hready : ∀ ops : Array Oper, ops[j]? = some o → j ∈ Region.ready .any ops (Array.replicate l.toArray.size false) := fun ops ho => by
      refine mem_ready.2 ⟨getD_in (by simpa using hjl) (getD_replicate_false _ _), o, ho, fun e he hb => ?_⟩
      have := List.all_eq_true.1 haf e (by simpa using he)
      rw [hb] at this
      cases this
    have hy : ∃ v, Yields P l.toArray o v a := by
      have hw : Region.wanted o (yielded l.toArray a.tmps) = true := by simp [Region.wanted, hg]
      cases ho : o.op <;> rw [ho] at hc <;> first | cases hc | skip
      · rename_i x; exact ⟨a.eval x, .inl ⟨hw, fun w => by simp [execOp, ho]⟩⟩
      · rename_i x; exact ⟨a.eval x, .inl ⟨hw, fun w => by simp [execOp, ho]⟩⟩
    obtain ⟨v, hy⟩ := hy
    refine wpAny_mono2 (Q := liftQ B w0 gh fun e σ' => e = .normal ∧ Q .normal σ') (fun a w ⟨σ1, ρ1, h2, h3⟩ => ⟨σ1, ρ1, h2.2, h3⟩) (fun e a w hne ⟨σ1, ρ1, h2, h3⟩ => absurd h2.1 hne) _ _ _ _ ?_
    rw [hN] at h1 ⊢
    have h3 := h1.2 j (by rw [← hN]; exact hready _ (by rw [wait_at, hoa]; simp [hjt]))
    have h4 : wpAny P .any (waitL t j 0 l).toArray (liftQ B w0 gh fun e σ' => e = .normal ∧ Q .normal σ') N ((Array.replicate (N + 1) false).setIfInBounds j true) (a.put o.dst v) w.drew := by
      unfold wpOp at h3
      rw [wait_at, hoa] at h3
      simp only [Option.map_some, hjt, Bool.false_eq_true, if_false, wait_yield] at h3
      rcases hy with ⟨hw, hv⟩ | ⟨hw, _⟩
      · rw [if_pos hw] at h3
        rcases h3 with h3 | ⟨_, a1, w1, σ1, ρ1, h5, _⟩
        · unfold Oper.wp at h3
          rw [hv w.drew] at h3
          exact h3
        · cases h5.1
      · simp [Region.wanted, hg] at hw
    have h5 := wpAny_wait _ _ _ _ (by
      have hj2 : j < N + 1 := by rw [← hN]; simpa using hjl
      simp [hj2]) h4
    rw [← hN] at h5 ⊢
    have := wpAny_first (P := P) (ops := l.toArray) (md := .any) (Q := liftQ B w0 gh fun e σ' => e = .normal ∧ Q .normal σ') hoa (Region.noSelect_spec hs) (fun c a w ⟨σ1, ρ1, h2, h3⟩ => by cases h2.1) N (Array.replicate l.toArray.size false) a w.drew
      (by
        have : (Array.replicate l.length false) = Array.replicate l.toArray.size false := by simp
        rw [this] at hf
        exact Region.free_spec hoa hf) (hready _ hoa) hy h5
    rw [hN] at this ⊢
    exact this
end
section
variable {P : Program} {B : Nat} {w0 : World} {T : Tab} {n : Nat} {e : Env} {h : List XLB} {gs : Frames} {K : KK}
theorem RegG.wait {l : List Oper} (t j : Nat) (hp : waitB l t j = true) (hx : RegG P B w0 T n (waitL t j 0 l) e h gs K) : RegG P B w0 T n l e h gs K := .ta fun O gh Q hq => TA.wait t j hp (regG_ta O hx fun e h gs hk => ⟨rfl, hq e h gs hk⟩)
end
end Go.Proofs.Ytmhmldpccccjbaa
