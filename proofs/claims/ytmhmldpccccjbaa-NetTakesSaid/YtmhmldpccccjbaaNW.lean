/- Three nets, and what was meant and came, behind numbers that were written over. No condition. -/
import Derived.Test.YtmhmldpccccjbaaN6
import Derived.Test.YtmhmldpccccjbaaU18
namespace Go.Proofs.Ytmhmldpccccjbaa
open Go.RowKit
set_option linter.unusedVariables false
set_option linter.unusedSimpArgs false

/-- What a slot carries. -/
def carr (s : List Sl) (x : Int) : Sl := (s.find? fun y => decide (y.a = x)).getD sl0
/-- None of the first slots is the one asked for. -/
def noCar (s : List Sl) (x : Int) (k : Nat) : Prop := ∀ j y, j < k → s[j]? = some y → y.a ≠ x
theorem noCar_0 (s : List Sl) (x : Int) : noCar s x 0 := fun j y hj => by omega
theorem noCar_s {s : List Sl} {x : Int} {k : Nat} {y : Sl} (h : noCar s x k) (hy : s[k]? = some y) (hn : ¬ y.a = x) : noCar s x (k + 1) := fun j z hj hz => by
  rcases Nat.lt_or_ge j k with h1 | h1
  · exact h j z h1 hz
  · obtain rfl : j = k := by omega
    rw [hy] at hz; injection hz with hz; subst hz; exact hn
theorem car_f {s : List Sl} {x : Int} {k : Nat} (h : noCar s x k) (hk : s.length ≤ k) : hasS s x = false := by
  unfold hasS
  rw [List.any_eq_false]
  intro y hy
  obtain ⟨j, hj, rfl⟩ := List.getElem_of_mem hy
  simpa using h j _ (by omega) (List.getElem?_eq_getElem hj)
theorem find_at {α : Type} {p : α → Bool} : ∀ {s : List α} {k : Nat} {y : α}, s[k]? = some y → p y = true → (∀ j z, j < k → s[j]? = some z → p z = false) → s.find? p = some y
  | [], k, y, h, _, _ => by simp at h
  | a :: s, 0, y, h, hp, _ => by simp at h; subst h; simp [List.find?_cons, hp]
  | a :: s, k + 1, y, h, hp, hn => by
    have h0 := hn 0 a (by omega) rfl
    rw [List.find?_cons, h0]
    exact find_at (by simpa using h) hp fun j z hj hz => hn (j + 1) z (by omega) (by simpa using hz)
theorem car_t {s : List Sl} {x : Int} {k : Nat} {y : Sl} (h : noCar s x k) (hy : s[k]? = some y) (hx : y.a = x) : hasS s x = true ∧ carr s x = y := by
  refine ⟨?_, ?_⟩
  · unfold hasS
    rw [List.any_eq_true]
    exact ⟨y, List.mem_of_getElem? hy, by simp [hx]⟩
  · unfold carr
    rw [find_at hy (by simp [hx]) fun j z hj hz => by simpa using h j z hj hz]
    rfl
theorem hasS_iff {s : List Sl} {x : Int} : hasS s x = true ↔ ∃ y ∈ s, y.a = x := by
  unfold hasS
  rw [List.any_eq_true]
  exact ⟨fun ⟨y, h1, h2⟩ => ⟨y, h1, by simpa using h2⟩, fun ⟨y, h1, h2⟩ => ⟨y, h1, by simpa using h2⟩⟩
theorem way_inj {s : List Sl} (hs : WayS s) {y z : Sl} (hy : y ∈ s) (hz : z ∈ s) (h : y.a = z.a) : y = z := by
  obtain ⟨i, hi, rfl⟩ := List.getElem_of_mem hy
  obtain ⟨j, hj, rfl⟩ := List.getElem_of_mem hz
  rcases Nat.lt_trichotomy i j with h1 | h1 | h1
  · have := List.pairwise_iff_getElem.1 hs.o i j hi hj h1; omega
  · subst h1; rfl
  · have := List.pairwise_iff_getElem.1 hs.o j i hj hi h1; omega
theorem carr_mem {s : List Sl} {x : Int} (h : hasS s x = true) : carr s x ∈ s ∧ (carr s x).a = x := by
  obtain ⟨y, hy, hx⟩ := hasS_iff.1 h
  unfold carr
  cases hf : s.find? fun y => decide (y.a = x) with
  | none =>
    rw [List.find?_eq_none] at hf
    exact absurd hx (by simpa using hf y hy)
  | some z => exact ⟨List.mem_of_find?_eq_some hf, by simpa using List.find?_some hf⟩
theorem carr_is {s : List Sl} (hs : WayS s) {y : Sl} (hy : y ∈ s) : carr s y.a = y := by
  have h := carr_mem (s := s) (x := y.a) (hasS_iff.2 ⟨y, hy, rfl⟩)
  exact way_inj hs h.1 hy h.2
/-- The slots of a net, of which one carries something else. -/
def withO (s : List Sl) (x : Int) (p : Sl) (is : Bool) (i : Nat) : Option Sl :=
  if (i : Int) = x then if is = true then some ⟨i, p.f, p.t, p.b⟩ else none
  else if hasS s i = true then some ⟨i, (carr s i).f, (carr s i).t, (carr s i).b⟩ else none
def withR (s : List Sl) (x : Int) (p : Sl) (is : Bool) (k : Nat) : List Sl := (List.range k).filterMap (withO s x p is)
theorem withR_s (s : List Sl) (x : Int) (p : Sl) (is : Bool) (k : Nat) : withR s x p is (k + 1) = withR s x p is k ++ (match withO s x p is k with
    | some y => [y]
    | none => []) := by
  unfold withR
  rw [List.range_succ, List.filterMap_append]
  congr 1
  rw [List.filterMap_cons, List.filterMap_nil]
  cases withO s x p is k <;> rfl
theorem withR_t {s : List Sl} {x : Int} {p : Sl} {is : Bool} {k : Nat} (h : (k : Int) = x) (hi : is = true) : withR s x p is (k + 1) = withR s x p is k ++ [⟨k, p.f, p.t, p.b⟩] := by
  rw [withR_s, withO, if_pos h, if_pos hi]
theorem withR_n {s : List Sl} {x : Int} {p : Sl} {is : Bool} {k : Nat} (h : (k : Int) = x) (hi : is = false) : withR s x p is (k + 1) = withR s x p is k := by
  rw [withR_s, withO, if_pos h, if_neg (by simp [hi])]; simp
theorem withR_c {s : List Sl} {x : Int} {p : Sl} {is : Bool} {k j : Nat} {y : Sl} (h : ¬ (k : Int) = x) (hn : noCar s k j) (hy : s[j]? = some y) (ha : y.a = k) : withR s x p is (k + 1) = withR s x p is k ++ [⟨k, y.f, y.t, y.b⟩] := by
  have := car_t hn hy ha
  rw [withR_s, withO, if_neg h, if_pos this.1, this.2]
theorem withR_f {s : List Sl} {x : Int} {p : Sl} {is : Bool} {k j : Nat} (h : ¬ (k : Int) = x) (hn : noCar s k j) (hj : s.length ≤ j) : withR s x p is (k + 1) = withR s x p is k := by
  rw [withR_s, withO, if_neg h, if_neg (by rw [car_f hn hj]; simp)]; simp
theorem withR_len (s : List Sl) (x : Int) (p : Sl) (is : Bool) (k : Nat) : (withR s x p is k).length ≤ k := by
  have := List.length_filterMap_le (withO s x p is) (List.range k)
  simpa [withR] using this
theorem withO_a {s : List Sl} {x : Int} {p : Sl} {is : Bool} {i : Nat} {y : Sl} (h : withO s x p is i = some y) : y.a = i := by
  unfold withO at h
  split at h
  · split at h
    · injection h with h; subst h; rfl
    · cases h
  · split at h
    · injection h with h; subst h; rfl
    · cases h
theorem withR_o (s : List Sl) (x : Int) (p : Sl) (is : Bool) : ∀ k, (withR s x p is k).Pairwise (fun y z => y.a < z.a) ∧ ∀ y ∈ withR s x p is k, y.a < k
  | 0 => ⟨by simp [withR], by simp [withR]⟩
  | k + 1 => by
    obtain ⟨h1, h2⟩ := withR_o s x p is k
    rw [withR_s]
    cases hw : withO s x p is k with
    | none => simp only [List.append_nil]; exact ⟨h1, fun y hy => by have := h2 y hy; omega⟩
    | some z =>
      have hz := withO_a hw
      simp only
      refine ⟨List.pairwise_append.2 ⟨h1, by simp, fun y hy q hq => ?_⟩, fun y hy => ?_⟩
      · simp only [List.mem_singleton] at hq; subst hq
        have := h2 y hy; omega
      · rcases List.mem_append.1 hy with hy | hy
        · have := h2 y hy; omega
        · simp only [List.mem_singleton] at hy; subst hy; omega
theorem withR_mem {s : List Sl} {x : Int} {p : Sl} {is : Bool} (hs : WayS s) (hx : inWay x) {y : Sl} : y ∈ withR s x p is 80 ↔ (y ∈ s ∧ y.a ≠ x) ∨ (is = true ∧ y = ⟨x, p.f, p.t, p.b⟩) := by
  unfold withR
  rw [List.mem_filterMap]
  unfold inWay at hx
  constructor
  · rintro ⟨i, hi, h⟩
    have hi := List.mem_range.1 hi
    unfold withO at h
    split at h
    · rename_i e
      split at h
      · injection h with h; subst h
        exact .inr ⟨by assumption, by rw [e]⟩
      · cases h
    · rename_i e
      split at h
      · rename_i hh
        injection h with h; subst h
        have hc := carr_mem hh
        refine .inl ⟨?_, e⟩
        rw [show ({ a := (i : Int), f := (carr s i).f, t := (carr s i).t, b := (carr s i).b } : Sl) = carr s i from by rw [sl_eq]; exact ⟨hc.2.symm, rfl, rfl, rfl⟩]
        exact hc.1
      · cases h
  · rintro (⟨hy, hn⟩ | ⟨hi, rfl⟩)
    · have hw := hs.w y hy
      unfold inWay at hw
      refine ⟨y.a.toNat, List.mem_range.2 (by omega), ?_⟩
      have e : ((y.a.toNat : Nat) : Int) = y.a := by omega
      unfold withO
      rw [e, if_neg hn, if_pos (hasS_iff.2 ⟨y, hy, rfl⟩), carr_is hs hy]
    · refine ⟨x.toNat, List.mem_range.2 (by omega), ?_⟩
      have e : ((x.toNat : Nat) : Int) = x := by omega
      unfold withO
      rw [e, if_pos rfl, if_pos hi]
theorem insS_mem {s : List Sl} {x y : Sl} : y ∈ insS s x ↔ y = x ∨ y ∈ s := by
  unfold insS
  conv => rhs; rw [← List.take_append_drop (posS s x.a) s]
  simp only [List.mem_append, List.mem_singleton]
  constructor
  · rintro ((h | h) | h)
    · exact .inr (.inl h)
    · exact .inl h
    · exact .inr (.inr h)
  · rintro (h | h | h)
    · exact .inl (.inr h)
    · exact .inl (.inl h)
    · exact .inr h
theorem delS_sub (s : List Sl) (k : Nat) : (delS s k).Sublist s := by
  unfold delS
  have h1 : (s.drop (k + 1)).Sublist (s.drop k) := by
    rw [Nat.add_comm, ← List.drop_drop]
    simpa [Nat.add_comm] using (List.drop_sublist 1 (s.drop k))
  have := (List.Sublist.refl (s.take k)).append h1
  rwa [List.take_append_drop] at this
theorem delS_mem {s : List Sl} (hs : WayS s) {k : Nat} {x y : Sl} (hx : s[k]? = some x) : y ∈ delS s k ↔ y ∈ s ∧ y.a ≠ x.a := by
  obtain ⟨hl, he⟩ := List.getElem?_eq_some_iff.1 hx
  have e : s = s.take k ++ ([x] ++ s.drop (k + 1)) := by
    conv => lhs; rw [← List.take_append_drop k s, List.drop_eq_getElem_cons hl, he]
    rfl
  have ho := hs.o
  rw [e, List.pairwise_append, List.pairwise_append] at ho
  obtain ⟨_, ⟨_, _, h2⟩, h1⟩ := ho
  constructor
  · intro h
    refine ⟨(delS_sub s k).subset h, ?_⟩
    unfold delS at h
    rcases List.mem_append.1 h with h | h
    · have := h1 y h x (by simp); omega
    · have := h2 x (by simp) y h; omega
  · rintro ⟨h, hn⟩
    rw [e] at h
    unfold delS
    simp only [List.mem_append, List.mem_singleton] at h ⊢
    rcases h with h | h | h
    · exact .inl h
    · exact absurd (by rw [h]) hn
    · exact .inr h
theorem with_del {s : List Sl} (hs : WayS s) {k : Nat} {x p : Sl} (hx : s[k]? = some x) : withR s x.a p false 80 = delS s k := by
  have hm := List.mem_of_getElem? hx
  refine rise_ext (key := fun y : Sl => y.a) (withR_o _ _ _ _ _).1 (hs.o.sublist (delS_sub s k)) fun y => ?_
  rw [withR_mem hs (hs.w x hm), delS_mem hs hx]
  simp
theorem with_ins {s : List Sl} (hs : WayS s) {x : Int} {p : Sl} (hx : inWay x) (hn : hasS s x = false) : withR s x p true 80 = insS s ⟨x, p.f, p.t, p.b⟩ := by
  have hnx : ∀ y ∈ s, y.a ≠ x := fun y hy e => by
    have := hasS_iff.2 ⟨y, hy, e⟩; rw [hn] at this; cases this
  refine rise_ext (key := fun y : Sl => y.a) (withR_o _ _ _ _ _).1 (insS_way (x := ⟨x, p.f, p.t, p.b⟩) hs hx hn).o fun y => ?_
  rw [withR_mem hs hx, insS_mem]
  constructor
  · rintro (⟨h, _⟩ | ⟨_, h⟩)
    · exact .inr h
    · exact .inl h
  · rintro (h | h)
    · exact .inr ⟨rfl, h⟩
    · exact .inl ⟨h, hnx y h⟩
/-- Each slot carries something. -/
theorem full_all {s : List Sl} (hs : WayS s) (h : s.length = 80) {x : Int} (hx : inWay x) : hasS s x = true := by
  cases hh : hasS s x with
  | true => rfl
  | false =>
    have h1 := (insS_way (x := ⟨x, 0, 0, []⟩) hs hx hh).n
    unfold insS at h1
    simp only [List.length_append, List.length_take, List.length_drop, List.length_cons, List.length_nil] at h1
    have := posS_le s x
    omega
theorem slot_ex {l x : Int} (hx : inWay x) : ∃ j, j < 80 ∧ slotN l j = x := by
  unfold inWay at hx
  refine ⟨((x - (l + 1)) % 80).toNat, by omega, ?_⟩
  unfold slotN
  omega
theorem all_full {s : List Sl} (hs : WayS s) {l : Int} (h : ∀ j, j < 80 → hasS s (slotN l j) = true) : s.length = 80 := by
  have h2 : s.map (fun y => y.a) = (List.range 80).map (fun i : Nat => (i : Int)) := by
    refine rise_ext (key := fun y : Int => y) (List.pairwise_map.2 hs.o) (List.pairwise_map.2 (List.pairwise_lt_range.imp fun h => by omega)) fun x => ?_
    simp only [List.mem_map, List.mem_range]
    constructor
    · rintro ⟨y, hy, rfl⟩
      have := hs.w y hy
      unfold inWay at this
      exact ⟨y.a.toNat, by omega, by omega⟩
    · rintro ⟨i, hi, rfl⟩
      obtain ⟨j, hj, e⟩ := slot_ex (l := l) (x := (i : Int)) ⟨by omega, by omega⟩
      have := h j hj
      rw [e] at this
      exact hasS_iff.1 this
  have := congrArg List.length h2
  simpa using this
theorem free_some {s : List Sl} (hs : WayS s) (l : Int) (h : ¬ s.length = 80) : ∃ i, i < 80 ∧ hasS s (slotN l i) = false ∧ ∀ j, j < i → hasS s (slotN l j) = true := by
  cases hf : freeI s l with
  | none => exact absurd (all_full hs (l := l) fun j hj => by simpa using first_no hf j hj) h
  | some i =>
    have h1 := first_is hf
    exact ⟨i, h1.1, by simpa using h1.2.1, fun j hj => by simpa using h1.2.2 j hj⟩
/-- The slot ahead of the next that is asked. -/
def lastI (l : Int) : Nat → Int
  | 0 => l
  | i + 1 => slotN l i
theorem lastI_s {l : Int} (hl : 0 ≤ l ∧ l < 80) {i : Nat} (hi : i ≤ 80) : (IntKind.i64.wrap (lastI l i + 1)).tmod 80 = slotN l i := by
  cases i with
  | zero =>
    simp only [lastI, slotN]
    rw [IntKind.wrap_i64, Int.tmod_eq_emod_of_nonneg (by omega)]
    omega
  | succ i =>
    simp only [lastI, slotN]
    rw [IntKind.wrap_i64, Int.tmod_eq_emod_of_nonneg (by omega)]
    omega
theorem meant_s {p : Int} {i : Nat} : (IntKind.i64.wrap (mtN p i + 1)).tmod 80 = mtN p (i + 1) := by
  unfold mtN
  rw [IntKind.wrap_i64, Int.tmod_eq_emod_of_nonneg (by omega)]
  omega
theorem meant_0 {p : Int} (hp : 0 ≤ p) : p.tmod 80 = mtN p 0 := by
  unfold mtN
  rw [Int.tmod_eq_emod_of_nonneg hp]
  omega
theorem meant_is {s : List Sl} (hs : WayS s) {p : Int} {k i j : Nat} {x y : Sl} (hp : 0 ≤ p) (hK : mtK s p = ((k : Int), 0)) (hx : s[k]? = some x) (hi : i < 80) (hn : ∀ q, q < i → hasS s (mtN p q) = false) (hy : s[j]? = some y) (ha : y.a = mtN p i) : y = x := by
  have hh : hasS s (mtN p i) = true := hasS_iff.2 ⟨y, List.mem_of_getElem? hy, ha⟩
  rw [mtK_t hp hi hh hn] at hK
  obtain ⟨z, hz, hza⟩ := has_at hs hh
  have e : posS s (mtN p i) = k := by
    have := congrArg Prod.fst hK
    simp only at this
    omega
  rw [e, hx] at hz
  injection hz with hz
  subst hz
  exact way_inj hs (List.mem_of_getElem? hy) (List.mem_of_getElem? hx) (ha.trans hza.symm)
theorem meant_no {s : List Sl} {p : Int} {k : Nat} (hp : 0 ≤ p) (hK : mtK s p = ((k : Int), 0)) (hn : ∀ q, q < 80 → hasS s (mtN p q) = false) : False := by
  rw [mtK_f hp hn] at hK
  have := congrArg Prod.snd hK
  simp at this
theorem doub_full {n : NetA} {x : Sl} (hs : WayS n.s) (h : n.s.length = 80) : doubX n x = (net0, 6) := by
  unfold doubX
  rw [fill_f fun j _ => full_all hs h (slotN_way _ _)]
  rfl
theorem doub_free {n : NetA} {x : Sl} {i : Nat} (hi : i < 80) (h1 : hasS n.s (slotN n.l i) = false) (h2 : ∀ j, j < i → hasS n.s (slotN n.l j) = true) : doubX n x = (⟨insS n.s ⟨slotN n.l i, x.f, x.t, x.b⟩, slotN n.l i, n.d⟩, 0) := by
  unfold doubX
  rw [fill_t hi h1 h2]
  rfl
end Go.Proofs.Ytmhmldpccccjbaa

namespace Go.Proofs.Ytmhmldpccccjbaa
open Go.RowKit
set_option linter.unusedVariables false
set_option linter.unusedSimpArgs false

abbrev Y3 := (NetA × NetA × NetA) × List Int × List Int
def byX (l : List Int) : XV := .p (.sl true (l.map by1)) (nl_by1 _).sl
def arr3 (y : Y3) : XV := .ag (netCX y.1.1 ++ (netCX y.1.2.1 ++ netCX y.1.2.2))
def pkV (f t : Int) (y : Y3) : List XV := [.p (.v (.int .i64 f)) (nlv _), .p (.v (.int .i64 t)) (nlv _), byX y.2.1]
def sloV (a f t : Int) (y : Y3) : List XV := [.p (.v (.int .i64 a)) (nlv _), .p (.v (.int .i64 f)) (nlv _), .p (.v (.int .i64 t)) (nlv _), byX y.2.2]
structure R3 (y : Y3) : Prop where
  a : y.1.1.Sz
  b : y.1.2.1.Sz
  c : y.1.2.2.Sz
  p : y.2.1.length ≤ 100000
  s : y.2.2.length ≤ 100000
/-- Bytes that are written over alone. -/
theorem bl_pk {C C' : Cx} (hs : ShpS C.S C.B C.w C'.w) (hB : C'.B = C.B) (hS : ∀ k, C.S k → C'.S k) {y : Y3} {f t : Int} {us : List Value} (h : DnL C (XV.denL (pkV f t y)) us) : ∃ l : List Int, l.length = y.2.1.length ∧ ∀ z : Y3, z.2.1 = l → DnL C' (XV.denL (pkV f t z)) us := by
  simp only [pkV, byX, XV.denL, XV.den, DnL] at h
  obtain ⟨u1, us1, rfl, h1, u2, us2, rfl, h2, u3, us3, rfl, h3, rfl⟩ := h
  obtain ⟨l, g1, g2⟩ := bl_data hs hB hS h3
  refine ⟨l, g1, fun z hz => ?_⟩
  simp only [pkV, byX, XV.denL, XV.den, DnL, hz]
  refine ⟨_, _, rfl, ?_, _, _, rfl, ?_, _, _, rfl, g2, rfl⟩
  · simp only [Dn] at h1 ⊢; exact h1
  · simp only [Dn] at h2 ⊢; exact h2
theorem bl_sv {C C' : Cx} (hs : ShpS C.S C.B C.w C'.w) (hB : C'.B = C.B) (hS : ∀ k, C.S k → C'.S k) {y : Y3} {a f t : Int} {us : List Value} (h : DnL C (XV.denL (sloV a f t y)) us) : ∃ l : List Int, l.length = y.2.2.length ∧ ∀ z : Y3, z.2.2 = l → DnL C' (XV.denL (sloV a f t z)) us := by
  simp only [sloV, byX, XV.denL, XV.den, DnL] at h
  obtain ⟨u0, us0, rfl, h0, u1, us1, rfl, h1, u2, us2, rfl, h2, u3, us3, rfl, h3, rfl⟩ := h
  obtain ⟨l, g1, g2⟩ := bl_data hs hB hS h3
  refine ⟨l, g1, fun z hz => ?_⟩
  simp only [sloV, byX, XV.denL, XV.den, DnL, hz]
  refine ⟨_, _, rfl, ?_, _, _, rfl, ?_, _, _, rfl, ?_, _, _, rfl, g2, rfl⟩
  · simp only [Dn] at h0 ⊢; exact h0
  · simp only [Dn] at h1 ⊢; exact h1
  · simp only [Dn] at h2 ⊢; exact h2
theorem bl_net' {C C' : Cx} (hs : ShpS C.S C.B C.w C'.w) (hB : C'.B = C.B) (hS : ∀ k, C.S k → C'.S k) {n : NetA} (hn : n.Sz) {us : List Value} (h1 : DnL C (XV.denL (netCX n)) us) : ∃ m : NetA, m.Sz ∧ DnL C' (XV.denL (netCX m)) us := by
  obtain ⟨m, g1, g2⟩ := bl_net hs hB hS h1
  exact ⟨m, g1.sz hn, g2⟩
theorem bl_arr {C C' : Cx} (hs : ShpS C.S C.B C.w C'.w) (hB : C'.B = C.B) (hS : ∀ k, C.S k → C'.S k) {y : Y3} (hy : R3 y) {u : Value} (h : Dn C (arr3 y).den u) : ∃ q : NetA × NetA × NetA, (q.1.Sz ∧ q.2.1.Sz ∧ q.2.2.Sz) ∧ ∀ z : Y3, z.1 = q → Dn C' (arr3 z).den u := by
  have e : ∀ z : Y3, (arr3 z).den = .agg (XV.denL (netCX z.1.1) ++ (XV.denL (netCX z.1.2.1) ++ XV.denL (netCX z.1.2.2))) := fun z => rfl
  rw [e] at h
  simp only [Dn] at h
  obtain ⟨vs, rfl, h⟩ := h
  obtain ⟨u1, r1, rfl, h1, h⟩ := DnL.split h
  obtain ⟨u2, u3, rfl, h2, h3⟩ := DnL.split h
  obtain ⟨a, a1, a2⟩ := bl_net' hs hB hS hy.a h1
  obtain ⟨b, b1, b2⟩ := bl_net' hs hB hS hy.b h2
  obtain ⟨c, c1, c2⟩ := bl_net' hs hB hS hy.c h3
  refine ⟨(a, b, c), ⟨a1, b1, c1⟩, fun z hz => ?_⟩
  rw [e, hz]
  simp only [Dn]
  exact ⟨_, rfl, a2.append (b2.append c2)⟩
/-- Behind a call that writes over: three nets, a packet's and a slot's bytes are known by their shape. -/
theorem bl3 {h : List XLB} {e : Env} {jp js : Nat} {tp ts : TypeId} {f t a f2 t2 : Int} {y0 : Y3} (h3 : R3 y0) (hl : look e 148 = arr3 y0) (hp : hget h jp = .cells tp (pkV f t y0)) (hs' : hget h js = .cells ts (sloV a f2 t2 y0)) (hne : Nat.beq jp js = false) (C C' : Cx) (hs : ShpS C.S C.B C.w C'.w) (hB : C'.B = C.B) (hS : ∀ k, C.S k → C'.S k) (us : Nat → List Value) (xs : Nat → Value) (hd : ∀ i t cs, hget h i = .cells t cs → DnL C (XV.denL cs) (us i)) (hx : ∀ p ∈ [(148, arr3)], Dn C (look e p.1).den (xs p.1)) :
    ∃ y : Y3, R3 y ∧ (∀ i V tt cs, dsL [(jp, pkV f t), (js, sloV a f2 t2)] i = some V → hget h i = .cells tt cs → DnL C' (XV.denL (V y)) (us i)) ∧ ∀ p ∈ [(148, arr3)], Dn C' (p.2 y).den (xs p.1) := by
  obtain ⟨l1, a1, a2⟩ := bl_pk hs hB hS (hd jp _ _ hp)
  obtain ⟨l2, b1, b2⟩ := bl_sv hs hB hS (hd js _ _ hs')
  have hx := hx (148, arr3) (by simp)
  simp only [hl] at hx
  obtain ⟨q, c1, c2⟩ := bl_arr hs hB hS h3 hx
  refine ⟨(q, l1, l2), ⟨c1.1, c1.2.1, c1.2.2, by show l1.length ≤ _; have := h3.p; omega, by show l2.length ≤ _; have := h3.s; omega⟩, fun i V t cs h1 h2 => ?_, fun p hp => ?_⟩
  · simp only [dsL] at h1
    cases hb : Nat.beq jp i with
    | true =>
      rw [hb] at h1
      injection h1 with h1
      subst h1
      rw [← Nat.eq_of_beq_eq_true hb]; exact a2 _ rfl
    | false =>
      rw [hb] at h1
      simp only at h1
      cases hb2 : Nat.beq js i with
      | true =>
        rw [hb2] at h1
        injection h1 with h1
        subst h1
        rw [← Nat.eq_of_beq_eq_true hb2]; exact b2 _ rfl
      | false => rw [hb2] at h1; cases h1
  · simp only [List.mem_singleton] at hp
    subst hp
    exact c2 _ rfl
/-- Bytes of a packet that are written over: of a slot only those are known too. -/
theorem bl2 {h : List XLB} {e : Env} {jp js : Nat} {tp ts : TypeId} {f t a f2 t2 : Int} {y0 : Y3} (hp : hget h jp = .cells tp (pkV f t y0)) (hs' : hget h js = .cells ts (sloV a f2 t2 y0)) (C C' : Cx) (hs : ShpS C.S C.B C.w C'.w) (hB : C'.B = C.B) (hS : ∀ k, C.S k → C'.S k) (us : Nat → List Value) (xs : Nat → Value) (hd : ∀ i t cs, hget h i = .cells t cs → DnL C (XV.denL cs) (us i)) (hx : ∀ p ∈ ([] : List (Nat × (Y3 → XV))), Dn C (look e p.1).den (xs p.1)) :
    ∃ y : Y3, (y.2.1.length = y0.2.1.length ∧ y.2.2.length = y0.2.2.length) ∧ (∀ i V tt cs, dsL [(jp, pkV f t), (js, sloV a f2 t2)] i = some V → hget h i = .cells tt cs → DnL C' (XV.denL (V y)) (us i)) ∧ ∀ p ∈ ([] : List (Nat × (Y3 → XV))), Dn C' (p.2 y).den (xs p.1) := by
  obtain ⟨l1, a1, a2⟩ := bl_pk hs hB hS (hd jp _ _ hp)
  obtain ⟨l2, b1, b2⟩ := bl_sv hs hB hS (hd js _ _ hs')
  refine ⟨(y0.1, l1, l2), ⟨a1, b1⟩, fun i V t cs h1 h2 => ?_, fun p hp => by simp at hp⟩
  simp only [dsL] at h1
  cases hb : Nat.beq jp i with
  | true =>
    rw [hb] at h1
    injection h1 with h1
    subst h1
    rw [← Nat.eq_of_beq_eq_true hb]; exact a2 _ rfl
  | false =>
    rw [hb] at h1
    simp only at h1
    cases hb2 : Nat.beq js i with
    | true =>
      rw [hb2] at h1
      injection h1 with h1
      subst h1
      rw [← Nat.eq_of_beq_eq_true hb2]; exact b2 _ rfl
    | false => rw [hb2] at h1; cases h1
/-- A net's cells, by whom they may be written. -/
def nCX (t : Bool × Bool × Bool) (n : NetA) : List XV := [.p (.sl t.1 (n.s.map (slC t.2.1))) (nl_sl _ _).sl, .p (.v (.int .i64 n.l)) (nlv _), .p (.sl t.2.2 (n.d.map dfC)) (nl_df _).sl]
def sCX (c : Bool) (x : Sl) : List XV := [.p (.v (.int .i64 x.a)) (nlv _), .p (.v (.int .i64 x.f)) (nlv _), .p (.v (.int .i64 x.t)) (nlv _), .p (.sl c (x.b.map by1)) (nl_by1 _).sl]
end Go.Proofs.Ytmhmldpccccjbaa
