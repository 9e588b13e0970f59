/- What is sent stands in a row: plain law of NetRow. No condition. -/
import Derived.Test.YtmhmldpccccjbaaNV
namespace Go.Proofs.Ytmhmldpccccjbaa
open Go.RowKit
set_option linter.unusedVariables false
set_option linter.unusedSimpArgs false

/-- A letter of a byte. -/
def ltC (x : Sl) : List TV := [.v (.int .i64 x.f), .v (.int .i64 x.t), .v (.int .u8 (x.b.headD 0))]
theorem nl_lt (l : List Sl) : NlLL (l.map ltC) := .map fun s _ => .cons (nlv _) (.cons (nlv _) (.cons (nlv _) .nil))
/-- The net when so many were sent: what it carries is what was sent last. -/
structure RowI (i sent : Nat) (n : NetA) : Prop where
  d : n.d = []
  l : n.l = (79 + (sent : Int)) % 80
  si : sent ≤ i
  s70 : sent ≤ 70
  sl : n.s.length ≤ sent
  at_ : ∀ (k : Nat) (x : Sl), n.s[k]? = some x → x.a = (sent : Int) - n.s.length + k ∧ x.f = 1 ∧ nodeB x.t = true ∧ x.t ≠ 1 ∧ x.b.length = 1
theorem row0 : RowI 0 0 ⟨[], 79, []⟩ := ⟨rfl, rfl, Nat.le_refl _, by omega, Nat.le_refl _, fun k x h => by simp at h⟩
section
variable {i sent : Nat} {n : NetA}
theorem RowI.mem (h : RowI i sent n) {x : Sl} (hx : x ∈ n.s) : 0 ≤ x.a ∧ x.a < sent ∧ x.f = 1 ∧ nodeB x.t = true ∧ x.t ≠ 1 ∧ x.b.length = 1 := by
  obtain ⟨k, hk, rfl⟩ := List.getElem_of_mem hx
  obtain ⟨h1, h2⟩ := h.at_ k _ (List.getElem?_eq_getElem hk)
  have := h.sl
  exact ⟨by omega, by omega, h2⟩
theorem RowI.way (h : RowI i sent n) : WayS n.s where
  n := by have := h.sl; have := h.s70; omega
  w := fun y hy => by have := h.mem hy; have := h.s70; unfold inWay; omega
  o := by
    rw [List.pairwise_iff_getElem]
    intro a b ha hb hab
    have h1 := (h.at_ a _ (List.getElem?_eq_getElem ha)).1
    have h2 := (h.at_ b _ (List.getElem?_eq_getElem hb)).1
    omega
theorem RowI.right (h : RowI i sent n) : rightB n = true := right_is
  { l := by rw [h.l]; omega
    s := h.way
    p := fun x hx => by
      obtain ⟨_, _, h1, h2, h3, h4⟩ := h.mem hx
      rw [h1, h4]
      unfold pkB
      rw [h2]
      simp only [Bool.and_true, Bool.and_eq_true, Bool.not_eq_true', decide_eq_false_iff_not, decide_eq_true_eq]
      exact ⟨⟨by decide, fun e => h3 e.symm⟩, by omega⟩
    d := by rw [h.d]; constructor <;> simp }
theorem node_le {t : Int} (h : nodeB t = true) : 1 ≤ t ∧ t ≤ 8 := by simpa [nodeB] using h
theorem RowI.ok (h : RowI i sent n) : n.Ok where
  s := fun x hx => by
    obtain ⟨h0, h5, h1, h2, h3, h4⟩ := h.mem hx
    have h6 := node_le h2
    have := h.s70
    exact ⟨by unfold I64; omega, by unfold I64; omega, by unfold I64; omega, by omega⟩
  sn := by have := h.sl; have := h.s70; omega
  l := by rw [h.l]; unfold I64; omega
  d := fun x hx => by rw [h.d] at hx; cases hx
  dn := by rw [h.d]; simp
theorem RowI.send_t (h : RowI i sent n) (hs : sent < 70) {t v : Int} (ht : pkB 1 t 1 = true) : sendN n 1 [(t, [v])] = (⟨n.s ++ [⟨sent, 1, t, [v]⟩], sent, []⟩, 0) := by
  have hl : slotN n.l 0 = sent := by unfold slotN; rw [h.l]; omega
  have hfree : hasS n.s (slotN n.l 0) = false := by
    rw [hl]
    unfold hasS
    rw [List.any_eq_false]
    intro x hx
    have := h.mem hx
    simp only [decide_eq_true_eq]
    omega
  have hf : freeI n.s n.l = some 0 := first_some (by omega) (by rw [hfree]; rfl) (fun j hj => by omega)
  have hp : posS n.s sent = n.s.length := by
    rcases Nat.lt_or_ge (posS n.s sent) n.s.length with h1 | h1
    · have h2 := posS_ge h.way.o (Nat.le_refl _) (List.getElem?_eq_getElem h1)
      have := h.mem (List.getElem_mem h1)
      omega
    · have := posS_le n.s sent; omega
  have hpk : pkB 1 t [v].length = true ∧ (1, t) ∉ n.d := ⟨ht, by rw [h.d]; simp⟩
  unfold sendN sendK
  rw [if_pos h.right, if_pos (by decide), List.foldl_cons, List.foldl_nil]
  unfold sstep
  simp only []
  rw [if_pos hpk]
  unfold fillN
  rw [hf]
  simp only [hl]
  unfold insS
  simp only [hp, List.take_length, List.drop_length, List.append_nil, h.d]
theorem RowI.send_f (h : RowI i sent n) {t v : Int} (ht : pkB 1 t 1 = false) : sendN n 1 [(t, [v])] = (n, 0) := by
  unfold sendN sendK
  rw [if_pos h.right, if_pos (by decide), List.foldl_cons, List.foldl_nil]
  unfold sstep
  simp only []
  rw [if_neg (by simp [ht])]
theorem RowI.send_I (h : RowI i sent n) (hs : sent < 70) {t v : Int} (ht : pkB 1 t 1 = true) : RowI (i + 1) (sent + 1) ⟨n.s ++ [⟨sent, 1, t, [v]⟩], sent, []⟩ where
  d := rfl
  l := by show (sent : Int) = _; omega
  si := by have := h.si; omega
  s70 := by omega
  sl := by show (n.s ++ _).length ≤ _; have := h.sl; simp; omega
  at_ := fun k x hx => by
    have hx : (n.s ++ [(⟨sent, 1, t, [v]⟩ : Sl)])[k]? = some x := hx
    have hlen : ((n.s ++ [(⟨sent, 1, t, [v]⟩ : Sl)]).length : Int) = n.s.length + 1 := by simp
    show x.a = ((sent + 1 : Nat) : Int) - ((n.s ++ [(⟨sent, 1, t, [v]⟩ : Sl)]).length : Int) + k ∧ _
    rw [hlen]
    rcases Nat.lt_or_ge k n.s.length with h1 | h1
    · rw [List.getElem?_append_left h1] at hx
      obtain ⟨h2, h3⟩ := h.at_ k x hx
      exact ⟨by omega, h3⟩
    · rw [List.getElem?_append_right h1] at hx
      obtain ⟨h2, h3⟩ := List.getElem?_eq_some_iff.1 hx
      have h4 : k = n.s.length := by simp at h2; omega
      subst h4
      have : x = ⟨sent, 1, t, [v]⟩ := by simpa using h3.symm
      subst this
      have : (nodeB 1 && nodeB t && !decide ((1 : Int) = t) && decide (1 ≤ 70000)) = true := ht
      simp only [Bool.and_eq_true, Bool.not_eq_true', decide_eq_false_iff_not] at this
      exact ⟨by show (sent : Int) = _; omega, rfl, this.1.1.2, fun e => this.1.2 e.symm, rfl⟩
theorem RowI.next (h : RowI i sent n) : RowI (i + 1) sent n := ⟨h.d, h.l, by have := h.si; omega, h.s70, h.sl, h.at_⟩
theorem RowI.none (h : RowI i sent n) (hs : n.s = []) : delivN n 0 = (net0, sl0, 4) := by
  unfold delivN
  rw [if_pos h.right, mt_none h.right (Int.le_refl _) hs]
  rfl
theorem RowI.del (h : RowI i sent n) {x : Sl} {s : List Sl} (hs : n.s = x :: s) : delivN n 0 = (⟨s, n.l, []⟩, x, 0) := by
  have hx := h.mem (x := x) (by rw [hs]; simp)
  have h70 := h.s70
  have hm : mtN 0 x.a.toNat = x.a := by unfold mtN; omega
  have hmt : mtK n.s 0 = (0, 0) := by
    have h1 := mtK_t (s := n.s) (p := 0) (i := x.a.toNat) (Int.le_refl _) (by omega) (by
      rw [hm, hs]; simp [hasS]) (fun j hj => by
      have e : mtN 0 j = j := by unfold mtN; omega
      rw [e]
      unfold hasS
      rw [List.any_eq_false]
      intro y hy
      obtain ⟨k, hk, rfl⟩ := List.getElem_of_mem hy
      have h2 := (h.at_ k _ (List.getElem?_eq_getElem hk)).1
      have h3 := (h.at_ 0 x (by rw [hs]; rfl)).1
      simp only [decide_eq_true_eq]
      omega)
    rw [hm] at h1
    have h4 : posS n.s x.a = 0 := by
      rcases Nat.eq_zero_or_pos (posS n.s x.a) with h5 | h5
      · exact h5
      · have := posS_lt h5 (show n.s[0]? = some x by rw [hs]; rfl)
        omega
    rw [h1, h4]
    rfl
  have hat : slotAt n 0 = x := by unfold slotAt; rw [hs]; rfl
  unfold delivN
  rw [if_pos h.right, hmt]
  simp only [if_true, hat]
  rw [if_neg (by rw [h.d]; simp)]
  simp [delS, hs, h.d]
theorem RowI.del_I (h : RowI i sent n) {x : Sl} {s : List Sl} (hs : n.s = x :: s) : RowI i sent ⟨s, n.l, []⟩ where
  d := rfl
  l := h.l
  si := h.si
  s70 := h.s70
  sl := by have := h.sl; rw [hs] at this; simp at this; show s.length ≤ _; omega
  at_ := fun k y hy => by
    obtain ⟨h1, h2⟩ := h.at_ (k + 1) y (by rw [hs]; exact hy)
    rw [hs] at h1
    simp only [List.length_cons] at h1
    exact ⟨by show y.a = (sent : Int) - (s.length : Int) + k; omega, h2⟩
/-- What stands ahead of a window. -/
def Pre := {l : List (List TV) // NlLL l}
def Pre.nil : Pre := ⟨[], .nil⟩
def Pre.snoc (p : Pre) (x : Sl) : Pre := ⟨p.1 ++ [ltC x], p.2.append (nl_lt [x])⟩
theorem win_drop {p : Pre} {k : Nat} (h : k = p.1.length) (l : List (List TV)) : (p.1 ++ l).drop k = l := List.drop_left' h.symm
theorem win_at {p : Pre} {k : Nat} (h : k = p.1.length) (x : Sl) (s : List Sl) : (p.1 ++ (x :: s).map ltC)[k]? = some (ltC x) := by
  subst h
  rw [List.getElem?_append_right (Nat.le_refl _), Nat.sub_self]
  rfl
theorem win_next (p : Pre) (x : Sl) (s : List Sl) : p.1 ++ (x :: s).map ltC = (p.snoc x).1 ++ s.map ltC := by simp [Pre.snoc]
theorem Pre.snoc_len {p : Pre} {k : Nat} (h : k = p.1.length) (x : Sl) : k + 1 = (p.snoc x).1.length := by simp [Pre.snoc, h]
/-- Truths, one by one. -/
def bo1 (b : Bool) : List TV := [.v (.bool b)]
theorem nl_bo (l : List Bool) : NlLL (l.map bo1) := .map fun x _ => .cons (nlv _) .nil
theorem pu_bo (l : List Bool) : PuLL (l.map bo1) := by
  induction l with
  | nil => simp [PuLL]
  | cons x l ih => simp only [List.map_cons, PuLL, bo1, PuL, Pu, and_true, true_and]; exact ih
theorem untag_bo (l : List Bool) : untagLL (l.map bo1) = l.map bo1 := by rw [untagLL_map]; rfl
end
end Go.Proofs.Ytmhmldpccccjbaa
