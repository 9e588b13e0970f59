/- Who hears whom then. No condition. -/
import Derived.Test.YtmhmldpccccjbaaN1
namespace Go.Proofs.Ytmhmldpccccjbaa
open Go.RowKit
set_option linter.unusedVariables false
set_option linter.unusedSimpArgs false

def dk (d : Int × Int) : Int := 10 * d.1 + d.2
def posD (s : List (Int × Int)) (x : Int) : Nat := (s.takeWhile fun y => decide (dk y < x)).length
structure WayD (d : List (Int × Int)) : Prop where
  n : d.length ≤ 100
  w : ∀ y ∈ d, pkB y.1 y.2 0 = true
  o : d.Pairwise fun x y => dk x < dk y
theorem pkB_iff {f t : Int} {n : Nat} : pkB f t n = true ↔ (1 ≤ f ∧ f ≤ 8) ∧ (1 ≤ t ∧ t ≤ 8) ∧ f ≠ t ∧ n ≤ 70000 := by simp [pkB, nodeB, and_assoc]
theorem ordN_dk {a b : Int × Int} (ha : pkB a.1 a.2 0 = true) (hb : pkB b.1 b.2 0 = true) : (ordN a b < 0 ↔ dk a < dk b) ∧ (ordN a b = 0 ↔ a = b) ∧ (a = b ↔ dk a = dk b) := by
  rw [pkB_iff] at ha hb
  obtain ⟨a1, a2⟩ := a
  obtain ⟨b1, b2⟩ := b
  simp only [Prod.mk.injEq, dk] at *
  unfold ordN cmpN
  refine ⟨?_, ?_, by omega⟩
  · simp only
    split <;> split <;> (repeat' split) <;> omega
  · simp only
    split <;> split <;> (repeat' split) <;> omega
/-- Numbers that rise, in a range. -/
theorem rise_len : ∀ {l : List Int} {lo hi : Int}, l.Pairwise (· < ·) → (∀ x ∈ l, lo ≤ x ∧ x < hi) → lo ≤ hi → (l.length : Int) ≤ hi - lo
  | [], lo, hi, _, _, h => by simp; omega
  | a :: l, lo, hi, hp, hr, h => by
    have h1 := hr a (by simp)
    have h2 := rise_len (l := l) (lo := a + 1) (hi := hi) (List.pairwise_cons.1 hp).2 (fun x hx => ⟨by have := (List.pairwise_cons.1 hp).1 x hx; omega, (hr x (by simp [hx])).2⟩) (by omega)
    simp only [List.length_cons]
    omega
theorem chkS_ok {s : List Sl} {ok : Bool} : ∀ {k : Nat}, chkS s ok k = true → ok = true ∧ ∀ j x, j < k → s[j]? = some x → lastA s j < x.a ∧ x.a < 80 ∧ pkB x.f x.t x.b.length = true
  | 0, h => ⟨h, fun j x hj => by omega⟩
  | k + 1, h => by
    simp only [chkS, Bool.and_eq_true] at h
    obtain ⟨i1, i2⟩ := chkS_ok h.1
    refine ⟨i1, fun j x hj hx => ?_⟩
    rcases Nat.lt_or_ge j k with h1 | h1
    · exact i2 j x h1 hx
    · obtain rfl : j = k := by omega
      have := h.2
      rw [hx] at this
      simpa [and_assoc] using this
theorem chkD_ok {s : List (Int × Int)} {ok : Bool} : ∀ {k : Nat}, chkD s ok k = true → ok = true ∧ ∀ j x, j < k → s[j]? = some x → pkB x.1 x.2 0 = true ∧ prevOk s x j = true
  | 0, h => ⟨h, fun j x hj => by omega⟩
  | k + 1, h => by
    simp only [chkD, Bool.and_eq_true] at h
    obtain ⟨i1, i2⟩ := chkD_ok h.1
    refine ⟨i1, fun j x hj hx => ?_⟩
    rcases Nat.lt_or_ge j k with h1 | h1
    · exact i2 j x h1 hx
    · obtain rfl : j = k := by omega
      have := h.2
      rw [hx] at this
      simpa using this
theorem rise_of {α : Type} {key : α → Int} {s : List α} (h : ∀ j x y, s[j]? = some x → s[j + 1]? = some y → key x < key y) : s.Pairwise fun x y => key x < key y := by
  induction s with
  | nil => exact .nil
  | cons a s ih =>
    have i1 := ih fun j x y hx hy => h (j + 1) x y (by simpa using hx) (by simpa using hy)
    refine List.pairwise_cons.2 ⟨fun z hz => ?_, i1⟩
    cases s with
    | nil => simp at hz
    | cons b s =>
      have h0 := h 0 a b rfl rfl
      rcases List.mem_cons.1 hz with rfl | hz
      · exact h0
      · have := (List.pairwise_cons.1 i1).1 z hz
        omega
theorem right_parts {n : NetA} (h : rightB n = true) : lastB n.l = true ∧ (∀ j x, n.s[j]? = some x → lastA n.s j < x.a ∧ x.a < 80 ∧ pkB x.f x.t x.b.length = true) ∧ ∀ j x, n.d[j]? = some x → pkB x.1 x.2 0 = true ∧ prevOk n.d x j = true := by
  obtain ⟨h1, h2⟩ := chkD_ok h
  obtain ⟨h3, h4⟩ := chkS_ok h1
  exact ⟨h3, fun j x hx => h4 j x (List.getElem?_eq_some_iff.1 hx).1 hx, fun j x hx => h2 j x (List.getElem?_eq_some_iff.1 hx).1 hx⟩
theorem lastA_ge {s : List Sl} : ∀ {j : Nat}, (∀ i x, i < j → s[i]? = some x → lastA s i < x.a) → j ≤ s.length → -1 ≤ lastA s j
  | 0, _, _ => by simp [lastA]
  | j + 1, h, hj => by
    have h1 := lastA_ge (j := j) (fun i x hi => h i x (by omega)) (by omega)
    have h2 : s[j]? = some s[j] := List.getElem?_eq_getElem (by omega)
    have h3 := h j _ (by omega) h2
    rw [lastA_s h2]
    omega
theorem right_S {n : NetA} (h : rightB n = true) : WayS n.s := by
  obtain ⟨-, h2, -⟩ := right_parts h
  have hw : ∀ y ∈ n.s, inWay y.a := fun y hy => by
    obtain ⟨j, hj, rfl⟩ := List.getElem_of_mem hy
    have h3 := h2 j _ (List.getElem?_eq_getElem hj)
    have h4 := lastA_ge (s := n.s) (j := j) (fun i x _ hx => (h2 i x hx).1) (by omega)
    exact ⟨by omega, h3.2.1⟩
  have ho : n.s.Pairwise fun x y => x.a < y.a := rise_of (key := fun x : Sl => x.a) fun j x y hx hy => by
    have := (h2 (j + 1) y hy).1
    rwa [lastA_s hx] at this
  refine ⟨?_, hw, ho⟩
  have := rise_len (l := n.s.map (·.a)) (lo := 0) (hi := 80) (List.pairwise_map.2 ho) (fun x hx => by obtain ⟨y, hy, rfl⟩ := List.mem_map.1 hx; exact hw y hy) (by omega)
  simp at this
  omega
theorem right_D {n : NetA} (h : rightB n = true) : WayD n.d := by
  obtain ⟨-, -, h2⟩ := right_parts h
  have hw : ∀ y ∈ n.d, pkB y.1 y.2 0 = true := fun y hy => by
    obtain ⟨j, hj, rfl⟩ := List.getElem_of_mem hy
    exact (h2 j _ (List.getElem?_eq_getElem hj)).1
  have ho : n.d.Pairwise fun x y => dk x < dk y := rise_of (key := dk) fun j x y hx hy => by
    have h1 := h2 (j + 1) y hy
    have h3 := (h2 j x hx).1
    simp only [prevOk, hx, decide_eq_true_eq] at h1
    exact (ordN_dk h3 h1.1).1.1 h1.2
  refine ⟨?_, hw, ho⟩
  have := rise_len (l := n.d.map dk) (lo := 0) (hi := 100) (List.pairwise_map.2 ho) (fun x hx => by
    obtain ⟨y, hy, rfl⟩ := List.mem_map.1 hx
    have := pkB_iff.1 (hw y hy)
    unfold dk; omega) (by omega)
  simp at this
  omega
/-- And back: a net whose parts are in order may be. -/
theorem chkS_all {s : List Sl} {ok : Bool} (hok : ok = true) : ∀ {k : Nat}, (∀ j x, j < k → s[j]? = some x → lastA s j < x.a ∧ x.a < 80 ∧ pkB x.f x.t x.b.length = true) → chkS s ok k = true
  | 0, _ => hok
  | k + 1, h => by
    have i1 := chkS_all hok (k := k) fun j x hj => h j x (by omega)
    simp only [chkS, i1, Bool.true_and]
    cases hx : s[k]? with
    | none => rfl
    | some x => have := h k x (by omega) hx; simp [this]
theorem chkD_all {s : List (Int × Int)} {ok : Bool} (hok : ok = true) : ∀ {k : Nat}, (∀ j x, j < k → s[j]? = some x → pkB x.1 x.2 0 = true ∧ prevOk s x j = true) → chkD s ok k = true
  | 0, _ => hok
  | k + 1, h => by
    have i1 := chkD_all hok (k := k) fun j x hj => h j x (by omega)
    simp only [chkD, i1, Bool.true_and]
    cases hx : s[k]? with
    | none => rfl
    | some x => have := h k x (by omega) hx; simp [this]
structure Right (n : NetA) : Prop where
  l : 0 ≤ n.l ∧ n.l < 80
  s : WayS n.s
  p : ∀ x ∈ n.s, pkB x.f x.t x.b.length = true
  d : WayD n.d
theorem right_of {n : NetA} (h : rightB n = true) : Right n := by
  have hs := right_parts h
  refine ⟨by simpa [lastB] using hs.1, right_S h, fun x hx => ?_, right_D h⟩
  obtain ⟨j, hj, rfl⟩ := List.getElem_of_mem hx
  exact (hs.2.1 j _ (List.getElem?_eq_getElem hj)).2.2
def net0 : NetA := ⟨[], 0, []⟩
def netX (n : NetA) : XV := .ag [.p (.sl true (n.s.map (slC true))) (nl_sl _ _).sl, .p (.v (.int .i64 n.l)) (nlv _), .p (.sl true (n.d.map dfC)) (nl_df _).sl]
/-- Who does not hear whom then. -/
def partN (n : NetA) (f t : Int) : NetA × Int :=
  if rightB n = true then if pkB f t 0 = true then if (f, t) ∈ n.d then (net0, 5) else (⟨n.s, n.l, n.d.take (posD n.d (dk (f, t))) ++ [(f, t)] ++ n.d.drop (posD n.d (dk (f, t)))⟩, 0) else (net0, 2) else (net0, 330)
def mendN (n : NetA) (f t : Int) : NetA × Int :=
  if rightB n = true then if pkB f t 0 = true then if (f, t) ∈ n.d then (⟨n.s, n.l, n.d.take (posD n.d (dk (f, t))) ++ n.d.drop (posD n.d (dk (f, t)) + 1)⟩, 0) else (net0, 4) else (net0, 2) else (net0, 330)
/-- A row of slots whose first ones have bytes of their own. -/
def mixS (s : List Sl) (i : Nat) : List (List TV) := (s.take i).map (slC true) ++ (s.drop i).map (slC false)
theorem nl_mix (s : List Sl) (i : Nat) : NlLL (mixS s i) := (nl_sl _ _).append (nl_sl _ _)
theorem mix_0 (s : List Sl) : mixS s 0 = s.map (slC false) := by simp [mixS]
theorem mix_all {s : List Sl} {i : Nat} (h : s.length ≤ i) : mixS s i = s.map (slC true) := by simp [mixS, List.take_of_length_le h, List.drop_eq_nil_of_le h]
theorem mix_len (s : List Sl) (i : Nat) : (mixS s i).length = s.length := by simp [mixS]; omega
theorem mix_at {s : List Sl} {i : Nat} {y : Sl} (h : s[i]? = some y) : (mixS s i)[i]? = some (slC false y) := by
  obtain ⟨hl, he⟩ := List.getElem?_eq_some_iff.1 h
  simp only [mixS]
  rw [List.getElem?_append_right (by simp; omega)]
  simp [List.length_take, Nat.min_eq_left (Nat.le_of_lt hl), h]
theorem mix_set {s : List Sl} {i : Nat} {y : Sl} (h : s[i]? = some y) : (mixS s i).set i (slC true y) = mixS s (i + 1) := by
  obtain ⟨hl, rfl⟩ := List.getElem?_eq_some_iff.1 h
  simp only [mixS]
  rw [List.set_append_right _ _ (by simp; omega), List.take_succ_eq_append_getElem hl, List.map_append, List.append_assoc]
  congr 1
  simp only [List.length_map, List.length_take, Nat.min_eq_left (Nat.le_of_lt hl), Nat.sub_self]
  rw [List.drop_eq_getElem_cons hl]
  simp only [List.map_cons, List.map_nil, List.set_cons_zero, List.cons_append, List.nil_append]
/-- The first number below 80 of which something holds. -/
def firstI (p : Nat → Bool) : Option Nat := (List.range 80).find? p
theorem find_range {p : Nat → Bool} : ∀ {n i : Nat}, (List.range n).find? p = some i ↔ i < n ∧ p i = true ∧ ∀ j, j < i → p j = false
  | 0, i => by simp
  | n + 1, i => by
    rw [List.range_succ, List.find?_append, Option.or_eq_some_iff, find_range (n := n) (i := i)]
    have hn : (List.range n).find? p = none ↔ ∀ j, j < n → p j = false := by
      rw [List.find?_eq_none]
      exact ⟨fun h j hj => by simpa using h j (List.mem_range.2 hj), fun h j hj => by simpa using h j (List.mem_range.1 hj)⟩
    rw [hn]
    constructor
    · rintro (⟨h1, h2, h3⟩ | ⟨h1, h2⟩)
      · exact ⟨by omega, h2, h3⟩
      · cases hp : p n with
        | true =>
          simp [List.find?_cons, hp] at h2
          subst h2
          exact ⟨by omega, hp, h1⟩
        | false => simp [List.find?_cons, hp] at h2
    · rintro ⟨h1, h2, h3⟩
      rcases Nat.lt_or_ge i n with h4 | h4
      · exact .inl ⟨h4, h2, h3⟩
      · obtain rfl : i = n := by omega
        exact .inr ⟨h3, by simp [List.find?_cons, h2]⟩
theorem first_some {p : Nat → Bool} {i : Nat} (hi : i < 80) (h : p i = true) (h2 : ∀ j, j < i → p j = false) : firstI p = some i := find_range.2 ⟨hi, h, h2⟩
theorem first_none {p : Nat → Bool} (h2 : ∀ j, j < 80 → p j = false) : firstI p = none := by
  unfold firstI
  rw [List.find?_eq_none]
  exact fun j hj => by simpa using h2 j (List.mem_range.1 hj)
theorem first_is {p : Nat → Bool} {i : Nat} (h : firstI p = some i) : i < 80 ∧ p i = true ∧ ∀ j, j < i → p j = false := find_range.1 h
theorem first_no {p : Nat → Bool} (h : firstI p = none) : ∀ j, j < 80 → p j = false := fun j hj => by
  unfold firstI at h
  rw [List.find?_eq_none] at h
  simpa using h j (List.mem_range.2 hj)
def posP (s : List Sl) (x : Int) : Prop := True
theorem posS_le (s : List Sl) (x : Int) : posS s x ≤ s.length := (List.takeWhile_sublist _).length_le
/-- What stands ahead of a place is less. -/
theorem posS_lt {s : List Sl} {x : Int} : ∀ {m : Nat} {y : Sl}, m < posS s x → s[m]? = some y → y.a < x := by
  induction s with
  | nil => intro m y h hy; simp at hy
  | cons a s ih =>
    intro m y h hy
    unfold posS at h
    by_cases ha : a.a < x
    · rw [List.takeWhile_cons_of_pos (by simpa using ha), List.length_cons] at h
      cases m with
      | zero => simp at hy; subst hy; exact ha
      | succ m => exact ih (m := m) (by unfold posS; omega) (by simpa using hy)
    · rw [List.takeWhile_cons_of_neg (by simpa using ha)] at h
      simp at h
theorem posS_ge {s : List Sl} {x : Int} (ho : s.Pairwise fun x y => x.a < y.a) : ∀ {m : Nat} {y : Sl}, posS s x ≤ m → s[m]? = some y → x ≤ y.a := by
  induction s with
  | nil => intro m y h hy; simp at hy
  | cons a s ih =>
    intro m y h hy
    unfold posS at h
    by_cases ha : a.a < x
    · rw [List.takeWhile_cons_of_pos (by simpa using ha), List.length_cons] at h
      cases m with
      | zero => omega
      | succ m => exact ih (List.pairwise_cons.1 ho).2 (m := m) (by unfold posS; omega) (by simpa using hy)
    · cases m with
      | zero => simp at hy; subst hy; omega
      | succ m =>
        have := (List.pairwise_cons.1 ho).1 y (List.mem_of_getElem? (by simpa using hy))
        omega
theorem has_at {s : List Sl} {x : Int} (hs : WayS s) (h : hasS s x = true) : ∃ y, s[posS s x]? = some y ∧ y.a = x := by
  rw [has_is hs.o (fun m y => posS_lt) (fun m y => posS_ge hs.o)] at h
  split at h
  · rename_i y hy; exact ⟨y, hy, by simpa using h⟩
  · cases h
/-- A slot among the others. -/
def insS (s : List Sl) (x : Sl) : List Sl := s.take (posS s x.a) ++ [x] ++ s.drop (posS s x.a)
def delS (s : List Sl) (k : Nat) : List Sl := s.take k ++ s.drop (k + 1)
theorem way_of {s : List Sl} (hw : ∀ y ∈ s, inWay y.a) (ho : s.Pairwise fun x y => x.a < y.a) : WayS s := by
  refine ⟨?_, hw, ho⟩
  have := rise_len (l := s.map (·.a)) (lo := 0) (hi := 80) (List.pairwise_map.2 ho) (fun x hx => by obtain ⟨y, hy, rfl⟩ := List.mem_map.1 hx; exact hw y hy) (by omega)
  simp at this
  omega
theorem insS_way {s : List Sl} {x : Sl} (hs : WayS s) (hx : inWay x.a) (hn : hasS s x.a = false) : WayS (insS s x) := by
  unfold insS
  refine way_of (fun y hy => ?_) ?_
  · simp only [List.mem_append, List.mem_singleton] at hy
    rcases hy with (hy | rfl) | hy
    · exact hs.w y (List.mem_of_mem_take hy)
    · exact hx
    · exact hs.w y (List.mem_of_mem_drop hy)
  · rw [List.pairwise_append, List.pairwise_append]
    refine ⟨⟨hs.o.sublist (List.take_sublist _ _), by simp, fun y hy z hz => ?_⟩, hs.o.sublist (List.drop_sublist _ _), fun y hy z hz => ?_⟩
    · simp only [List.mem_singleton] at hz
      subst hz
      obtain ⟨m, hm, rfl⟩ := List.getElem_of_mem hy
      rw [List.length_take] at hm
      rw [List.getElem_take]
      exact posS_lt (m := m) (by omega) (List.getElem?_eq_getElem _)
    · have hz2 : x.a < z.a := by
        obtain ⟨m, hm, rfl⟩ := List.getElem_of_mem hz
        rw [List.length_drop] at hm
        rw [List.getElem_drop]
        have h1 := posS_ge hs.o (x := x.a) (m := posS s x.a + m) (by omega) (List.getElem?_eq_getElem (by omega))
        have h2 : s[posS s x.a + m].a ≠ x.a := fun e => by
          unfold hasS at hn
          rw [List.any_eq_false] at hn
          exact hn _ (List.getElem_mem (l := s) (n := posS s x.a + m) (by omega)) (by simpa using e)
        omega
      rcases List.mem_append.1 hy with hy | hy
      · obtain ⟨m, hm, rfl⟩ := List.getElem_of_mem hy
        rw [List.length_take] at hm
        rw [List.getElem_take]
        have := posS_lt (s := s) (x := x.a) (m := m) (by omega) (List.getElem?_eq_getElem (by omega))
        omega
      · simp only [List.mem_singleton] at hy
        subst hy; exact hz2
/-- Where a packet goes that is sent. -/
def slotN (l : Int) (i : Nat) : Int := (l + 1 + i) % 80
def freeI (s : List Sl) (l : Int) : Option Nat := firstI fun i => !hasS s (slotN l i)
theorem slotN_way (l : Int) (i : Nat) : inWay (slotN l i) := by unfold slotN inWay; omega
def fillN (s : List Sl) (l f t : Int) (b : List Int) : List Sl × Int × Bool :=
  match freeI s l with
  | some i => (insS s ⟨slotN l i, f, t, b⟩, slotN l i, true)
  | none => (s, l, false)
/-- Which slot is meant. -/
def mtN (p : Int) (i : Nat) : Int := (p % 80 + i) % 80
theorem mtN_way (p : Int) (i : Nat) : inWay (mtN p i) := by unfold mtN inWay; omega
def meantI (s : List Sl) (p : Int) : Option Nat := firstI fun i => hasS s (mtN p i)
def mtK (s : List Sl) (p : Int) : Int × Int :=
  if p < 0 then (0, 2) else match meantI s p with
    | some i => ((posS s (mtN p i) : Int), 0)
    | none => (0, 4)
theorem mt_cases {n : NetA} (h : rightB n = true) (p : Int) : (p < 0 ∧ mtK n.s p = (0, 2)) ∨ (0 ≤ p ∧ n.s = [] ∧ mtK n.s p = (0, 4)) ∨ (0 ≤ p ∧ ∃ (k : Nat) (x : Sl), n.s[k]? = some x ∧ mtK n.s p = ((k : Int), 0)) := by
  have hS := right_S h
  by_cases hp : p < 0
  · exact .inl ⟨hp, by unfold mtK; rw [if_pos hp]⟩
  · refine .inr ?_
    cases hm : meantI n.s p with
    | none =>
      refine .inl ⟨by omega, ?_, by unfold mtK; rw [if_neg hp, hm]⟩
      cases hs : n.s with
      | nil => rfl
      | cons y s =>
        have hy := hS.w y (by rw [hs]; simp)
        unfold inWay at hy
        have h1 := first_no hm ((y.a - p % 80) % 80).toNat (by omega)
        rw [show mtN p ((y.a - p % 80) % 80).toNat = y.a from by unfold mtN; omega] at h1
        unfold hasS at h1
        rw [List.any_eq_false] at h1
        exact absurd (h1 y (by rw [hs]; simp)) (by simp)
    | some i =>
      obtain ⟨y, hy, -⟩ := has_at hS (first_is hm).2.1
      exact .inr ⟨by omega, _, y, hy, by unfold mtK; rw [if_neg hp, hm]⟩
def sl0 : Sl := ⟨0, 0, 0, []⟩
def slotAt (n : NetA) (k : Int) : Sl := (n.s[k.toNat]?).getD sl0
def loseN (n : NetA) (p : Int) : NetA × Int :=
  if rightB n = true then if (mtK n.s p).2 = 0 then (⟨delS n.s (mtK n.s p).1.toNat, n.l, n.d⟩, 0) else (net0, (mtK n.s p).2) else (net0, 330)
def meantN (n : NetA) (p : Int) : Sl × Int :=
  if rightB n = true then if (mtK n.s p).2 = 0 then (slotAt n (mtK n.s p).1, 0) else (sl0, (mtK n.s p).2) else (sl0, 330)
def delivN (n : NetA) (p : Int) : NetA × Sl × Int :=
  if rightB n = true then if (mtK n.s p).2 = 0 then
    if ((slotAt n (mtK n.s p).1).f, (slotAt n (mtK n.s p).1).t) ∈ n.d then (net0, sl0, 331) else (⟨delS n.s (mtK n.s p).1.toNat, n.l, n.d⟩, slotAt n (mtK n.s p).1, 0)
    else (net0, sl0, (mtK n.s p).2) else (net0, sl0, 330)
def doubX (n : NetA) (x : Sl) : NetA × Int := if (fillN n.s n.l x.f x.t x.b).2.2 = true then (⟨(fillN n.s n.l x.f x.t x.b).1, (fillN n.s n.l x.f x.t x.b).2.1, n.d⟩, 0) else (net0, 6)
def doubN (n : NetA) (p : Int) : NetA × Int :=
  if rightB n = true then if (mtK n.s p).2 = 0 then doubX n (slotAt n (mtK n.s p).1) else (net0, (mtK n.s p).2) else (net0, 330)
/-- What is said. -/
abbrev Msg := Int × List Int
def sdC (c : Bool) (m : Msg) : List TV := [.v (.int .i64 m.1), .sl c (m.2.map by1)]
theorem nl_sd (c : Bool) (l : List Msg) : NlLL (l.map (sdC c)) := .map fun s _ => .cons (nlv _) (.cons (nl_by1 _).sl .nil)
theorem untag_sd (c : Bool) (l : List Msg) : untagLL (l.map (sdC c)) = l.map (sdC false) := by
  rw [untagLL_map]
  exact List.map_congr_left fun s _ => by simp only [sdC, untagL, untag, untag_by1]
theorem pu_sd (c : Bool) (l : List Msg) : PuLL (l.map (sdC c)) := PuLL_map _ _ fun s _ => by simp [sdC, PuL, Pu, pu_by1]
def sstep (d : List (Int × Int)) (fr : Int) (q : List Sl × Int) (m : Msg) : List Sl × Int :=
  if pkB fr m.1 m.2.length = true ∧ (fr, m.1) ∉ d then ((fillN q.1 q.2 fr m.1 m.2).1, (fillN q.1 q.2 fr m.1 m.2).2.1) else q
def sendK (n : NetA) (fr : Int) (ms : List Msg) : List Sl × Int := ms.foldl (sstep n.d fr) (n.s, n.l)
def sendN (n : NetA) (fr : Int) (ms : List Msg) : NetA × Int :=
  if rightB n = true then if nodeB fr = true then (⟨(sendK n fr ms).1, (sendK n fr ms).2, n.d⟩, 0) else (net0, 2) else (net0, 330)
theorem sendK_s {n : NetA} {fr : Int} {ms : List Msg} {k : Nat} {m : Msg} (h : ms[k]? = some m) : sendK n fr (ms.take (k + 1)) = sstep n.d fr (sendK n fr (ms.take k)) m := by
  obtain ⟨hl, rfl⟩ := List.getElem?_eq_some_iff.1 h
  unfold sendK
  rw [List.take_succ_eq_append_getElem hl, List.foldl_append]
  rfl
theorem fill_t {s : List Sl} {l f t : Int} {b : List Int} {i : Nat} (hi : i < 80) (h : hasS s (slotN l i) = false) (h2 : ∀ j, j < i → hasS s (slotN l j) = true) : fillN s l f t b = (insS s ⟨slotN l i, f, t, b⟩, slotN l i, true) := by
  unfold fillN freeI
  rw [first_some hi (by simp [h]) (fun j hj => by simp [h2 j hj])]
theorem fill_f {s : List Sl} {l f t : Int} {b : List Int} (h2 : ∀ j, j < 80 → hasS s (slotN l j) = true) : fillN s l f t b = (s, l, false) := by
  unfold fillN freeI
  rw [first_none (fun j hj => by simp [h2 j hj])]
theorem mtK_t {s : List Sl} {p : Int} {i : Nat} (hp : 0 ≤ p) (hi : i < 80) (h : hasS s (mtN p i) = true) (h2 : ∀ j, j < i → hasS s (mtN p j) = false) : mtK s p = ((posS s (mtN p i) : Int), 0) := by
  unfold mtK meantI
  rw [if_neg (by omega), first_some hi h h2]
theorem mtK_f {s : List Sl} {p : Int} (hp : 0 ≤ p) (h2 : ∀ j, j < 80 → hasS s (mtN p j) = false) : mtK s p = (0, 4) := by
  unfold mtK meantI
  rw [if_neg (by omega), first_none h2]
section
variable {P : Program} {B : Nat} {w0 : World} {T : Tab} {n : Nat} {e : Env} {h : List XLB} {gs : Frames} {K : XQ} {c : Code}
/-- A row that is written no more. -/
theorem XT.frz (j : Nat) (hx : frzK e h gs j fun e' h' gs' => XT P B w0 n c e' h' gs' K) : XT P B w0 n c e h gs K := ⟨fun gh Q hq => by
  obtain ⟨e', h', gs', hs, hh⟩ := frzK_ok (n := n) (B := B) (w0 := w0) hx
  exact TW.le (hh.ok gh Q hq) (hs _)⟩
end
end Go.Proofs.Ytmhmldpccccjbaa

namespace Go.Proofs.Ytmhmldpccccjbaa
open Go.RowKit
set_option linter.unusedVariables false
set_option linter.unusedSimpArgs false
set_option maxRecDepth 20000
theorem check_t {n : NetA} (h : rightB n = true) (b c e : Bool) (ho : n.Ok) : XMeets Try.prog 22 [netT b c e n] (.p (.v (.int .i64 0)) (nlv _)) := by
  have := check_X b c e n ho
  rwa [show (if rightB n = true then (0 : Int) else 330) = 0 from if_pos h] at this
theorem check_f {n : NetA} (h : rightB n = false) (b c e : Bool) (ho : n.Ok) : XMeets Try.prog 22 [netT b c e n] (.p (.v (.int .i64 330)) (nlv _)) := by
  have := check_X b c e n ho
  rwa [show (if rightB n = true then (0 : Int) else 330) = 330 from if_neg (by simp [h])] at this
end Go.Proofs.Ytmhmldpccccjbaa
