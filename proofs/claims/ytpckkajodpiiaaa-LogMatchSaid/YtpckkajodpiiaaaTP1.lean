/- What a log is behind an offer: the plain law. No condition. -/
import Derived.Test.YtpckkajodpiiaaaTE6
namespace Go.Proofs.Ytpckkajodpiiaaa
open Go.RowKit
set_option linter.unusedVariables false
set_option linter.unusedSimpArgs false
set_option linter.unusedSectionVars false

/-- The Term of the k-th spot. -/
def tm (t : Int) (es : List Ent) : Nat → Int
  | 0 => t
  | k + 1 => (es[k]?.map (·.T)).getD 0
theorem spot_tm (i t : Int) (es : List Ent) (k : Nat) : spotN i t es k = ((i + k) % 18446744073709551616, tm t es k) := by
  cases k <;> rfl
theorem tm_cons (t : Int) (e : Ent) (a : List Ent) : ∀ k, tm t (e :: a) (k + 1) = tm e.T a k
  | 0 => rfl
  | k + 1 => by simp [tm]
theorem standB_app (b : List Ent) : ∀ (a : List Ent) (t : Int), standB (a ++ b) t = (standB a t && standB b (tm t a a.length))
  | [], t => by simp [standB, tm]
  | e :: a, t => by
    rw [List.cons_append, standB, standB, standB_app b a e.T, List.length_cons, tm_cons]
    simp [Bool.and_assoc]
theorem standB_take (a : List Ent) (t : Int) (k : Nat) (h : standB a t = true) : standB (a.take k) t = true := by
  have h1 := standB_app (a.drop k) (a.take k) t
  rw [List.take_append_drop, h] at h1
  have := h1.symm
  simp only [Bool.and_eq_true] at this
  exact this.1
theorem tm_take {t : Int} {es b : List Ent} {K k : Nat} (hk : k ≤ K) (hK : K ≤ es.length) : tm t (es.take K ++ b) k = tm t es k := by
  cases k with
  | zero => rfl
  | succ k =>
    simp only [tm]
    rw [List.getElem?_append_left (by simp; omega), List.getElem?_take_of_lt (by omega)]
theorem tm_drop {t : Int} {es b : List Ent} {K m : Nat} (hK : K ≤ es.length) : tm t (es.take K ++ b) (K + m + 1) = (b[m]?.map (·.T)).getD 0 := by
  simp only [tm]
  have h1 : (es.take K).length = K := by simp; omega
  rw [List.getElem?_append_right (by omega), h1, Nat.add_sub_cancel_left]
theorem has_iff {i t : Int} {es : List Ent} {x T : Int} (hi0 : 0 ≤ i) (hr : i + es.length < 18446744073709551616) : hasB i t es x T = true ↔ ∃ k : Nat, k ≤ es.length ∧ i + k = x ∧ tm t es k = T := by
  constructor
  · intro h
    obtain ⟨k, h1, h2, h3, h4⟩ := hasB_at h
    rw [spot_tm, Prod.mk.injEq] at h4
    exact ⟨k, h1, by omega, h4.2⟩
  · rintro ⟨k, h1, rfl, rfl⟩
    rcases ofN_cases i (i + k) es.length with ⟨k', h2, h3, h4, h5⟩ | ⟨h2, h3⟩
    · have hk : k' = k := by omega
      subst hk
      simp only [hasB, h3, Int.toNat_natCast, spot_tm, Bool.and_eq_true, decide_eq_true_eq]
      exact ⟨by omega, by omega, trivial⟩
    · exact absurd (by omega) (h3 k h1)
theorem term_at {i t : Int} {es : List Ent} {k : Nat} (hi0 : 0 ≤ i) (hm : mayB i t es = true) (hk : k ≤ es.length) : termN i t es (i + k) = (tm t es k, true) := by
  obtain ⟨hr, _⟩ := may_room hm
  rcases ofN_cases i (i + k) es.length with ⟨k', h2, h3, h4, h5⟩ | ⟨h2, h3⟩
  · have hk : k' = k := by omega
    subst hk
    simp only [termN, h3, hm, Int.toNat_natCast, spot_tm]
    rw [if_pos ⟨trivial, by omega⟩]
  · exact absurd (by omega) (h3 k hk)
theorem last_at {i t : Int} {es : List Ent} (hi0 : 0 ≤ i) (hm : mayB i t es = true) : lastN i t es = (i + es.length, tm t es es.length) := by
  obtain ⟨hr, _⟩ := may_room hm
  rw [lastN, if_pos hm, spot_tm]
  simp only [Prod.mk.injEq, and_true]
  omega
theorem may_iff {i t : Int} {es : List Ent} : mayB i t es = true ↔ (((0 < i) = (0 < t)) ∧ es.length ≤ 16 ∧ i ≤ 18446744073709551614 ∧ (es.length : Int) ≤ 18446744073709551614 - i ∧ standB es t = true) := by
  simp only [mayB, roomB, Bool.and_eq_true, decide_eq_true_eq]
  constructor <;> (intro h; simp_all)

/-- What a Take that succeeds says. -/
structure Taken (i t : Int) (es : List Ent) (p : Int × Int) (more : List Ent) (n K : Nat) : Prop where
  m0 : meetE i t es p more = 0
  hn : meetN i t es p.1 more = n
  nl : n ≤ more.length
  may : mayB i t es = true
  room : p.1 + more.length ≤ 18446744073709551614
  st : standB more p.2 = true
  hK : K ≤ es.length
  X : takeL i t es p more = if n < more.length then es.take K ++ more.drop n else es
  at_ : n < more.length → i + K = p.1 + n
  all : n = more.length → K = es.length
  mayX : mayB i t (takeL i t es p more) = true
theorem taken {i t : Int} {es : List Ent} {p : Int × Int} {more : List Ent} (hi0 : 0 ≤ i) (hp0 : 0 ≤ p.1) (h : takeE i t es p more = 0) : ∃ n K, Taken i t es p more n K := by
  simp only [takeE] at h
  split at h
  case isFalse hne => exact absurd h hne
  rename_i hm0
  obtain ⟨h1, h2, h3⟩ := meetN_spec i t es p.1 more
  have hme := hm0
  simp only [meetE] at hme
  split at hme
  case isFalse => cases hme
  rename_i hm
  split at hme
  case isFalse => cases hme
  rename_i hsr
  have hr := hsr.2
  simp only [roomB, Bool.and_eq_true, decide_eq_true_eq] at hr
  split at h
  · rename_i hl
    obtain ⟨_, K, hK, hk2, hk3⟩ := take_at hm0 hl hi0 hp0
    have eK : takeQ i t es p more = K := by unfold takeQ; omega
    rw [eK] at h
    have eX : takeL i t es p more = es.take K ++ more.drop (meetN i t es p.1 more) := by rw [takeL, if_pos hl, eK]
    refine ⟨_, K, hm0, rfl, h1, hm, by omega, hsr.1, hK, by rw [if_pos hl]; exact eX, fun _ => hk2, fun e => by omega, ?_⟩
    rw [eX, may_iff]
    obtain ⟨m1, m2, m3, m4, m5⟩ := may_iff.1 hm
    have hlt : (es.take K).length = K := by simp; omega
    have hld : (more.drop (meetN i t es p.1 more)).length = more.length - meetN i t es p.1 more := by simp
    simp only [extE] at h
    split at h
    case isFalse => cases h
    rename_i hst
    split at h
    case isTrue => cases h
    rename_i hor
    simp only [not_or] at hor
    rw [spot_tm] at hst
    refine ⟨m1, by rw [List.length_append]; omega, m3, by rw [List.length_append, hlt, hld]; omega, ?_⟩
    rw [standB_app, standB_take _ _ _ m5]
    simpa using hst
  · rename_i hl
    have eX : takeL i t es p more = es := by rw [takeL, if_neg hl]
    exact ⟨_, es.length, hm0, rfl, h1, hm, by omega, hsr.1, Nat.le_refl _, by rw [if_neg hl]; exact eX, fun h => absurd h hl, fun _ => rfl, by rw [eX]; exact hm⟩
section
variable {i t : Int} {es : List Ent} {p : Int × Int} {more : List Ent} {n K : Nat} (T : Taken i t es p more n K) (hi0 : 0 ≤ i) (hp0 : 0 ≤ p.1)
include T hi0 hp0
theorem Taken.low {k : Nat} (hk : k ≤ K) : tm t (takeL i t es p more) k = tm t es k ∧ k ≤ (takeL i t es p more).length := by
  have hK := T.hK
  rw [T.X]
  split
  · exact ⟨tm_take hk T.hK, by simp; omega⟩
  · exact ⟨rfl, by omega⟩
theorem Taken.high {j : Nat} (hj : n ≤ j) (hl : j < more.length) : tm t (takeL i t es p more) (K + (j - n) + 1) = (more[j]?.map (·.T)).getD 0 ∧ K + (j - n) + 1 ≤ (takeL i t es p more).length ∧ i + ((K + (j - n) + 1 : Nat) : Int) = p.1 + j + 1 := by
  have hK := T.hK
  have h1 := T.at_ (by omega)
  rw [T.X, if_pos (by omega)]
  refine ⟨?_, by simp; omega, by omega⟩
  rw [tm_drop hK, List.getElem?_drop, show n + (j - n) = j by omega]
theorem Taken.has {j : Nat} (hl : j < more.length) (hij : i < p.1 + j + 1) : hasB i t (takeL i t es p more) (p.1 + j + 1) ((more[j]?.map (·.T)).getD 0) = true := by
  obtain ⟨hr, _⟩ := may_room T.mayX
  rw [has_iff hi0 (by omega)]
  rcases Nat.lt_or_ge j n with h | h
  · obtain ⟨_, h2, _⟩ := meetN_spec i t es p.1 more
    have h3 := h2 j (by rw [T.hn]; exact h)
    simp only [metB, hij, decide_true, Bool.true_and, Bool.not_not] at h3
    obtain ⟨hr2, _⟩ := may_room T.may
    obtain ⟨k, k1, k2, k3⟩ := (has_iff hi0 (by omega)).1 h3
    have hk : k ≤ K := by
      rcases Nat.lt_or_ge n more.length with h4 | h4
      · have := T.at_ h4; omega
      · rw [T.all (by have := T.nl; omega)]; exact k1
    obtain ⟨h5, h6⟩ := T.low hi0 hp0 hk
    exact ⟨k, h6, k2, h5.trans k3⟩
  · obtain ⟨h1, h2, h3⟩ := T.high hi0 hp0 h hl
    exact ⟨_, h2, h3, h1⟩
theorem Taken.keeps {k : Nat} (hk : k ≤ es.length) (hb : ¬ (n < more.length ∧ i + k > p.1 + n)) : termN i t es (i + k) = (tm t es k, true) ∧ termN i t (takeL i t es p more) (i + k) = (tm t es k, true) := by
  have hkK : k ≤ K := by
    rcases Nat.lt_or_ge n more.length with h4 | h4
    · have := T.at_ h4; omega
    · rw [T.all (by have := T.nl; omega)]; exact hk
  obtain ⟨h5, h6⟩ := T.low hi0 hp0 hkK
  exact ⟨term_at hi0 T.may hk, by rw [term_at hi0 T.mayX h6, h5]⟩
theorem Taken.ends (hl : n ≠ more.length) : (lastN i t (takeL i t es p more)).1 = p.1 + more.length := by
  have h1 := T.nl
  have h2 := T.at_ (by omega)
  have hK := T.hK
  rw [last_at hi0 T.mayX]
  show i + ((takeL i t es p more).length : Int) = _
  rw [T.X, if_pos (by omega)]
  simp
  omega
end
end Go.Proofs.Ytpckkajodpiiaaa
