/- Logs that take from one another: the plain law. No condition. -/
import Derived.Test.YtpckkajodpiiaaaTP2
import Derived.Test.YtpckkajodpiiaaaTEA
import Derived.Test.YtpckkajodpiiaaaTEB
namespace Go.Proofs.Ytpckkajodpiiaaa
open Go.RowKit
/-- Ahead of two entries of one Term all is the same. -/
def Mt (x y : List Ent) : Prop := ∀ (k : Nat) (e f : Ent), x[k]? = some e → y[k]? = some f → e.T = f.T → x.take (k + 1) = y.take (k + 1)
theorem Mt.swap {x y : List Ent} (h : Mt x y) : Mt y x := fun k e f h1 h2 h3 => (h k f e h2 h1 h3.symm).symm
theorem Mt.self (x : List Ent) : Mt x x := fun _ _ _ _ _ _ => rfl
theorem Mt.take {x y : List Ent} (h : Mt x y) (n : Nat) : Mt (x.take n) y := fun k e f h1 h2 h3 => by
  have hk : k < n := by
    rcases Nat.lt_or_ge k n with h4 | h4
    · exact h4
    · rw [List.getElem?_eq_none (by simp; omega)] at h1; cases h1
  rw [List.getElem?_take_of_lt hk] at h1
  rw [List.take_take, Nat.min_eq_left (by omega)]
  exact h k e f h1 h2 h3
theorem Mt.drop {x y : List Ent} (h : Mt x y) (q : Nat) : Mt (x.drop q) (y.drop q) := fun k e f h1 h2 h3 => by
  rw [List.getElem?_drop] at h1 h2
  have h4 := h (q + k) e f h1 h2 h3
  have key : ∀ l : List Ent, (l.drop q).take (k + 1) = (l.take (q + k + 1)).drop q := fun l => by
    rw [List.drop_take]; congr 1; omega
  rw [key, key, h4]
theorem Mt.app {x y : List Ent} (h : Mt x y) {e0 : Ent} (hy : ∀ f ∈ y, f.T < e0.T) : Mt (x ++ [e0]) y := fun k e f h1 h2 h3 => by
  have hf := hy f (List.mem_of_getElem? h2)
  rcases Nat.lt_or_ge k x.length with hk | hk
  · rw [List.getElem?_append_left hk] at h1
    rw [List.take_append_of_le_length (by omega)]
    exact h k e f h1 h2 h3
  · rw [List.getElem?_append_right hk] at h1
    cases hq : k - x.length with
    | zero => rw [hq] at h1; simp at h1; subst h1; omega
    | succ j => rw [hq] at h1; simp at h1
structure Lg (m i t : Int) (x : List Ent) : Prop where
  may : mayB i t x = true
  top : ∀ e ∈ x, e.T ≤ m
  tt : t ≤ m
  len : i + x.length ≤ m
  i0 : 0 ≤ i
  t0 : 0 ≤ t
  ok : okE x
theorem Lg.mono {m m' i t : Int} {x : List Ent} (h : Lg m i t x) (hm : m ≤ m') : Lg m' i t x := ⟨h.may, fun e he => Int.le_trans (h.top e he) hm, Int.le_trans h.tt hm, Int.le_trans h.len hm, h.i0, h.t0, h.ok⟩
theorem Lg.tm_le {m i t : Int} {x : List Ent} (h : Lg m i t x) {k : Nat} (hk : k ≤ x.length) : tm t x k ≤ m ∧ 0 ≤ tm t x k := by
  cases k with
  | zero => exact ⟨h.tt, h.t0⟩
  | succ k =>
    obtain ⟨e, he⟩ : ∃ e, x[k]? = some e := ⟨x[k], List.getElem?_eq_getElem (by omega)⟩
    simp only [tm, he, Option.map_some, Option.getD_some]
    exact ⟨h.top e (List.mem_of_getElem? he), (h.ok.w e (List.mem_of_getElem? he)).1⟩
theorem Lg.head {m i t : Int} {x : List Ent} (h : Lg m i t x) (k : Nat) : Lg m i t (x.take k) := by
  have hl : (x.take k).length ≤ x.length := by simp; omega
  have := h.len
  refine ⟨?_, fun e he => h.top e (List.mem_of_mem_take he), h.tt, by omega, h.i0, h.t0, h.ok.take k⟩
  rcases Nat.lt_or_ge x.length k with h1 | h1
  · rw [List.take_of_length_le (by omega)]; exact h.may
  · exact may_head h.i0 h.may h1
theorem Lg.tail {m i t : Int} {x : List Ent} (h : Lg m i t x) {q : Nat} (hq : q ≤ x.length) : Lg m (i + q) (tm t x q) (x.drop q) := by
  have := h.len
  have := h.i0
  exact ⟨may_tail h.i0 h.may hq h.t0, fun e he => h.top e (List.mem_of_mem_drop he), (h.tm_le hq).1, by rw [List.length_drop]; omega, by omega, (h.tm_le hq).2, h.ok.drop q⟩
/-- An entry that is appended. -/
def entA (m d : Int) : Ent := ⟨m + 1, 2, [d]⟩
theorem Lg.app {m i t d : Int} {x : List Ent} (h : Lg m i t x) (hm0 : 0 ≤ m) (hm : m < 1000) (he : xtE i t x [entA m d] = 0) : Lg (m + 1) i t (x ++ [entA m d]) := by
  have hl := h.len
  rw [xtE, if_pos h.may, extE] at he
  split at he
  case isFalse => cases he
  split at he
  case isTrue => cases he
  rename_i hs ho
  simp only [not_or] at ho
  obtain ⟨m1, m2, m3, m4, m5⟩ := may_iff.1 h.may
  rw [spot_tm] at hs
  have := h.i0
  refine ⟨may_iff.2 ⟨m1, by simp at ho ⊢; omega, m3, by simp; omega, ?_⟩, fun e hx => ?_, by have := h.tt; omega, by simp; omega, h.i0, h.t0, ?_⟩
  · rw [standB_app, m5, hs]; rfl
  · rcases List.mem_append.1 hx with h1 | h1
    · have := h.top e h1; omega
    · rw [List.mem_singleton] at h1; subst h1; exact Int.le_refl _
  · refine h.ok.app ⟨fun e hx => ?_, by simp, fun e hx => ?_⟩ (by simp; omega)
    · rw [List.mem_singleton] at hx; subst hx; simp [entA]; omega
    · rw [List.mem_singleton] at hx; subst hx; simp [entA]
/-- What is taken: the log as it was, or the beginning of the other one. -/
theorem take_is {m i t : Int} {x y : List Ent} (hx : Lg m i t x) (hy : Lg m i t y) (hxy : Mt x y) {j : Nat} (hj : j ≤ y.length) (n : Nat) (hm : m < 1000) (h : takeE i t x (i + j, tm t y j) ((y.drop j).take n) = 0) :
    takeL i t x (i + j, tm t y j) ((y.drop j).take n) = x ∨ ∃ k, takeL i t x (i + j, tm t y j) ((y.drop j).take n) = y.take k := by
  have hi0 := hx.i0
  have hlx := hx.len
  have hly := hy.len
  obtain ⟨q, K, T⟩ := taken hi0 (show 0 ≤ ((i + j, tm t y j) : Int × Int).1 by simp only; omega) h
  have hnl := T.nl
  have hK := T.hK
  have hml : ((y.drop j).take n).length = min n (y.length - j) := by simp
  rcases Nat.lt_or_ge q ((y.drop j).take n).length with hq | hq
  · right
    have hKq : K = j + q := by have := T.at_ hq; simp only at this; omega
    have hX := T.X
    rw [if_pos hq] at hX
    have key : x.take K = y.take K := by
      rcases Nat.eq_zero_or_pos K with h0 | h0
      · rw [h0]; rfl
      · obtain ⟨K', rfl⟩ : ∃ K', K = K' + 1 := ⟨K - 1, by omega⟩
        obtain ⟨e, he⟩ : ∃ e, x[K']? = some e := ⟨x[K'], List.getElem?_eq_getElem (by omega)⟩
        obtain ⟨f, hf⟩ : ∃ f, y[K']? = some f := ⟨y[K'], List.getElem?_eq_getElem (by omega)⟩
        refine hxy K' e f he hf ?_
        have fin : ∀ {b T0 : Int}, hasB i t x b T0 = true → b = i + K' + 1 → T0 = f.T → e.T = f.T := fun {b T0} h1 h2 h3 => by
          obtain ⟨k, k1, k2, k3⟩ := (has_iff hi0 (by omega)).1 h1
          obtain rfl : k = K' + 1 := by omega
          simp only [tm, he, Option.map_some, Option.getD_some] at k3
          rw [k3, h3]
        rcases Nat.eq_zero_or_pos q with hq0 | hq0
        · have h0 := T.m0
          simp only [meetE, T.may, if_true] at h0
          split at h0
          case isFalse => cases h0
          split at h0
          case isTrue => cases h0
          rename_i hno
          have h1 : hasB i t x (i + j) (tm t y j) = true := by
            cases h2 : hasB i t x (i + j) (tm t y j)
            · exact absurd ⟨by omega, h2⟩ hno
            · rfl
          obtain rfl : j = K' + 1 := by omega
          exact fin h1 (by omega) (by simp only [tm, hf, Option.map_some, Option.getD_some])
        · obtain ⟨_, h2, _⟩ := meetN_spec i t x (i + j) ((y.drop j).take n)
          have h3 := h2 (q - 1) (by have := T.hn; simp only at this; omega)
          have hlt : i < i + j + ((q - 1 : Nat) : Int) + 1 := by omega
          simp only [metB, hlt, decide_true, Bool.true_and, Bool.not_not] at h3
          refine fin h3 (by omega) ?_
          rw [List.getElem?_take_of_lt (by omega), List.getElem?_drop, show j + (q - 1) = K' by omega, hf]; rfl
    refine ⟨j + ((y.drop j).take n).length, ?_⟩
    rw [hX, key, hKq, ← List.take_append_drop q ((y.drop j).take n)]
    have e1 : ((y.drop j).take n).take q = (y.drop j).take q := by rw [List.take_take, Nat.min_eq_left (by omega)]
    rw [List.take_append_drop]
    have e2 : y.take (j + ((y.drop j).take n).length) = y.take j ++ (y.drop j).take n := by
      rw [List.take_add]; congr 1
      rw [hml]
      rcases Nat.le_total n (y.length - j) with h5 | h5
      · rw [Nat.min_eq_left h5]
      · rw [Nat.min_eq_right h5, List.take_of_length_le (by simp), List.take_of_length_le (by simp; omega)]
    rw [e2, List.take_add, List.append_assoc, ← e1, List.take_append_drop]
  · left
    rw [T.X, if_neg (by omega)]
/-- Three logs that take from one another. -/
structure J (m i t : Int) (a b c : List Ent) : Prop where
  la : Lg m i t a
  lb : Lg m i t b
  lc : Lg m i t c
  ab : Mt a b
  bc : Mt b c
  ca : Mt c a
theorem J.mono {m m' i t : Int} {a b c : List Ent} (h : J m i t a b c) (hm : m ≤ m') : J m' i t a b c := ⟨h.la.mono hm, h.lb.mono hm, h.lc.mono hm, h.ab, h.bc, h.ca⟩
theorem J.rot {m i t : Int} {a b c : List Ent} (h : J m i t a b c) : J m i t b c a := ⟨h.lb, h.lc, h.la, h.bc, h.ca, h.ab⟩
theorem J.swap {m i t : Int} {a b c : List Ent} (h : J m i t a b c) : J m i t b a c := ⟨h.lb, h.la, h.lc, h.ab.swap, h.ca.swap, h.bc.swap⟩
theorem J.app {m i t d : Int} {a b c : List Ent} (h : J m i t a b c) (hm0 : 0 ≤ m) (hm : m < 1000) (he : xtE i t a [entA m d] = 0) : J (m + 1) i t (a ++ [entA m d]) b c := by
  have hb : ∀ {x : List Ent}, Lg m i t x → ∀ f ∈ x, f.T < (entA m d).T := fun hx f hf => by have := hx.top f hf; simp only [entA]; omega
  exact ⟨h.la.app hm0 hm he, h.lb.mono (by omega), h.lc.mono (by omega), h.ab.app (hb h.lb), h.bc, (h.ca.swap.app (hb h.lc)).swap⟩
theorem J.app1 {m i t d : Int} {a b c : List Ent} (h : J m i t a b c) (hm0 : 0 ≤ m) (hm : m < 1000) (he : xtE i t b [entA m d] = 0) : J (m + 1) i t a (b ++ [entA m d]) c := (h.rot.app hm0 hm he).rot.rot
theorem J.app2 {m i t d : Int} {a b c : List Ent} (h : J m i t a b c) (hm0 : 0 ≤ m) (hm : m < 1000) (he : xtE i t c [entA m d] = 0) : J (m + 1) i t a b (c ++ [entA m d]) := (h.rot.rot.app hm0 hm he).rot
/-- The first takes from one. -/
theorem J.tk {m i t : Int} {a b c y : List Ent} (h : J m i t a b c) (hm : m < 1000) (hy : Lg m i t y) (hya : Mt y a) (hyb : Mt y b) (hyc : Mt y c) {j : Nat} (hj : j ≤ y.length) {n : Nat} (he : takeE i t a (i + j, tm t y j) ((y.drop j).take n) = 0) :
    J (m + 1) i t (takeL i t a (i + j, tm t y j) ((y.drop j).take n)) b c := by
  rcases take_is h.la hy hya.swap hj n hm he with h1 | ⟨k, h1⟩
  · rw [h1]; exact h.mono (by omega)
  · rw [h1]
    exact ⟨(hy.head k).mono (by omega), h.lb.mono (by omega), h.lc.mono (by omega), hyb.take k, h.bc, (hyc.take k).swap⟩
section
variable {m i t : Int} {a b c : List Ent} (h : J m i t a b c) (hm : m < 1000) {j : Nat} {n : Nat}
include h hm
theorem J.t00 (hj : j ≤ a.length) (he : takeE i t a (i + j, tm t a j) ((a.drop j).take n) = 0) : J (m + 1) i t (takeL i t a (i + j, tm t a j) ((a.drop j).take n)) b c := h.tk hm h.la (.self _) h.ab h.ca.swap hj he
theorem J.t01 (hj : j ≤ b.length) (he : takeE i t a (i + j, tm t b j) ((b.drop j).take n) = 0) : J (m + 1) i t (takeL i t a (i + j, tm t b j) ((b.drop j).take n)) b c := h.tk hm h.lb h.ab.swap (.self _) h.bc hj he
theorem J.t02 (hj : j ≤ c.length) (he : takeE i t a (i + j, tm t c j) ((c.drop j).take n) = 0) : J (m + 1) i t (takeL i t a (i + j, tm t c j) ((c.drop j).take n)) b c := h.tk hm h.lc h.ca h.bc.swap (.self _) hj he
theorem J.t10 (hj : j ≤ a.length) (he : takeE i t b (i + j, tm t a j) ((a.drop j).take n) = 0) : J (m + 1) i t a (takeL i t b (i + j, tm t a j) ((a.drop j).take n)) c := (h.swap.t01 hm hj he).swap
theorem J.t11 (hj : j ≤ b.length) (he : takeE i t b (i + j, tm t b j) ((b.drop j).take n) = 0) : J (m + 1) i t a (takeL i t b (i + j, tm t b j) ((b.drop j).take n)) c := (h.swap.t00 hm hj he).swap
theorem J.t12 (hj : j ≤ c.length) (he : takeE i t b (i + j, tm t c j) ((c.drop j).take n) = 0) : J (m + 1) i t a (takeL i t b (i + j, tm t c j) ((c.drop j).take n)) c := (h.swap.t02 hm hj he).swap
theorem J.t20 (hj : j ≤ a.length) (he : takeE i t c (i + j, tm t a j) ((a.drop j).take n) = 0) : J (m + 1) i t a b (takeL i t c (i + j, tm t a j) ((a.drop j).take n)) := (h.rot.rot.t01 hm hj he).rot
theorem J.t21 (hj : j ≤ b.length) (he : takeE i t c (i + j, tm t b j) ((b.drop j).take n) = 0) : J (m + 1) i t a b (takeL i t c (i + j, tm t b j) ((b.drop j).take n)) := (h.rot.rot.t02 hm hj he).rot
theorem J.t22 (hj : j ≤ c.length) (he : takeE i t c (i + j, tm t c j) ((c.drop j).take n) = 0) : J (m + 1) i t a b (takeL i t c (i + j, tm t c j) ((c.drop j).take n)) := (h.rot.rot.t00 hm hj he).rot
end
/-- All give up what is ahead of a spot. -/
theorem J.cut {m i t T : Int} {a b c : List Ent} (h : J m i t a b c) {q : Nat} (ha : q ≤ a.length) (hb : q ≤ b.length) (hc : q ≤ c.length) (ta : tm t a q = T) (tb : tm t b q = T) (tc : tm t c q = T) : J (m + 1) (i + q) T (a.drop q) (b.drop q) (c.drop q) := by
  have h1 := h.la.tail ha
  have h2 := h.lb.tail hb
  have h3 := h.lc.tail hc
  rw [ta] at h1
  rw [tb] at h2
  rw [tc] at h3
  exact ⟨h1.mono (by omega), h2.mono (by omega), h3.mono (by omega), h.ab.drop q, h.bc.drop q, h.ca.drop q⟩
theorem J.zero : J 0 0 0 [] [] [] := by
  have h1 : Lg 0 0 0 [] := ⟨by decide, by simp, by omega, by simp, by omega, by omega, ⟨fun e he => by simp at he, by simp, fun e he => by simp at he⟩⟩
  exact ⟨h1, h1, h1, .self _, .self _, .self _⟩
/-- What From says of a log. -/
theorem from_is {m i t : Int} {x : List Ent} (h : Lg m i t x) (hm : m < 1000) (j : Nat) {n : Int} (hn : 0 ≤ n) : (j ≤ x.length ∧ fromE i t x (i + 1 + j) n = 0 ∧ fromA i t x (i + 1 + j) n = (i + j, tm t x j) ∧ fromL i t x (i + 1 + j) n = (x.drop j).take n.toNat) ∨ (x.length < j ∧ fromE i t x (i + 1 + j) n = 4 ∧ fromL i t x (i + 1 + j) n = []) := by
  have hi0 := h.i0
  have hl := h.len
  have hp : 0 < i + 1 + (j : Int) := by omega
  rcases ofN_cases i (i + 1 + j - 1) x.length with ⟨k, h2, h3, h4, h5⟩ | ⟨h2, h3⟩
  · left
    obtain rfl : k = j := by omega
    have hA : aheadN i t x (i + 1 + k) = ((k : Int), 0) := by rw [aheadN, if_pos h.may, if_pos ⟨hp, by rw [h3]; omega⟩, h3]
    have hE : fromE i t x (i + 1 + k) n = 0 := by rw [fromE, hA]; simp; omega
    refine ⟨h2, hE, ?_, ?_⟩
    · rw [fromA, if_pos hE, hA]; exact spot_in hi0 h.may h2
    · rw [fromL, if_pos hE, hA]; rfl
  · right
    have hA : aheadN i t x (i + 1 + j) = (-1, 4) := by rw [aheadN, if_pos h.may, if_neg (by rw [h2]; omega)]
    have hE : fromE i t x (i + 1 + j) n = 4 := by rw [fromE, hA]; simp
    refine ⟨?_, hE, by rw [fromL, hE]; simp⟩
    rcases Nat.lt_or_ge x.length j with h4 | h4
    · exact h4
    · exact absurd (by omega) (h3 j h4)
end Go.Proofs.Ytpckkajodpiiaaa
