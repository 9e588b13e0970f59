/- Rows of entries as they lie in memory, and which may stand behind a term. No condition. -/
import Derived.Test.YtpckkajodpiiaaaE1
namespace Go.Proofs.Ytpckkajodpiiaaa
open Go.RowKit
set_option linter.unusedVariables false
set_option linter.unusedSimpArgs false

/-- An entry: its Term, its Kind, its bytes. -/
structure Ent where
  T : Int
  K : Int
  D : List Int
/-- An entry with the place where its bytes lie. -/
structure EP where
  e : Ent
  A : Option Addr
  n : Nat
  c : Nat
def em (ps : List EP) : List Value := ps.flatMap fun p => [.int .u64 p.e.T, .int .i64 p.e.K, .slice p.A p.n p.c]
theorem em_get : ∀ (ps : List EP) (i : Nat) (p : EP), ps[i]? = some p → (em ps)[i * 3]? = some (.int .u64 p.e.T) ∧ (em ps)[i * 3 + 1]? = some (.int .i64 p.e.K) ∧ (em ps)[i * 3 + 2]? = some (.slice p.A p.n p.c)
  | [], i, p, h => by simp at h
  | q :: ps, 0, p, h => by
    simp at h
    subst h
    simp [em]
  | q :: ps, i + 1, p, h => by
    have := em_get ps i p (by simpa using h)
    unfold em at this ⊢
    rw [List.flatMap_cons, show (i + 1) * 3 = i * 3 + 3 by omega, show i * 3 + 3 + 1 = i * 3 + 1 + 3 by omega, show i * 3 + 3 + 2 = i * 3 + 2 + 3 by omega]
    simpa using this
theorem em_len (ps : List EP) : (em ps).length = ps.length * 3 := by
  induction ps with
  | nil => rfl
  | cons p ps ih => unfold em at ih ⊢; rw [List.flatMap_cons, List.length_append, ih]; simp; omega
theorem em_app (a b : List EP) : em (a ++ b) = em a ++ em b := by unfold em; rw [List.flatMap_append]
theorem em_take (ps : List EP) (k : Nat) : (em ps).take (k * 3) = em (ps.take k) := by
  induction ps generalizing k with
  | nil => simp [em]
  | cons p ps ih =>
    cases k with
    | zero => simp [em]
    | succ k => unfold em at ih ⊢; rw [List.take_succ_cons, List.flatMap_cons, List.flatMap_cons, ← ih, show (k + 1) * 3 = k * 3 + 1 + 1 + 1 by omega]; rfl
theorem em_drop (ps : List EP) (k : Nat) : (em ps).drop (k * 3) = em (ps.drop k) := by
  induction ps generalizing k with
  | nil => simp [em]
  | cons p ps ih =>
    cases k with
    | zero => simp [em]
    | succ k => unfold em at ih ⊢; rw [List.drop_succ_cons, List.flatMap_cons, ← ih, show (k + 1) * 3 = k * 3 + 1 + 1 + 1 by omega]; rfl
theorem em_one (ps : List EP) : ∀ u ∈ em ps, u.oneCell' = true := by
  intro u hu
  unfold em at hu
  rw [List.mem_flatMap] at hu
  obtain ⟨p, _, hp⟩ := hu
  simp at hp
  rcases hp with rfl | rfl | rfl <;> rfl

/-- An entry's bytes lie where it says, and its numbers are such. -/
structure DataE (w : World) (p : EP) : Prop where
  sees : Sees w none 1 p.A p.n (ib .u8 p.e.D)
  nc : p.n ≤ p.c
  small : p.c ≤ maxLen
  t0 : 0 ≤ p.e.T
  t1 : p.e.T < 18446744073709551616
theorem DataE.below {w w' : World} {p : EP} (h : DataE w p) (hb : Below w.heap.size w w') : DataE w' p := ⟨h.sees.below hb, h.nc, h.small, h.t0, h.t1⟩
theorem DataE.len {w : World} {p : EP} (h : DataE w p) : p.e.D.length = p.n := by have := h.sees.1; simpa [ib] using this
/-- A row of entries. -/
def SeesE (w : World) (e : Option TypeId) (A : Option Addr) (n : Nat) (ps : List EP) : Prop := Sees w e 3 A n (em ps) ∧ ∀ p ∈ ps, DataE w p
section
variable {w w' : World} {e : Option TypeId} {A : Option Addr} {n : Nat} {ps : List EP}
theorem SeesE.below (h : SeesE w e A n ps) (hb : Below w.heap.size w w') : SeesE w' e A n ps := ⟨h.1.below hb, fun p hp => (h.2 p hp).below hb⟩
theorem SeesE.alloc (h : SeesE w e A n ps) (o : Obj) : SeesE (w.alloc o) e A n ps := h.below ((Below.refl _ _).alloc (Nat.le_refl _) _)
theorem SeesE.len (h : SeesE w e A n ps) : ps.length = n := by have := h.1.1; rw [em_len] at this; omega
theorem SeesE.at_ (h : SeesE w e A n ps) {k : Nat} (hk : k < n) :
    ∃ ad p, A = some ad ∧ ps[k]? = some p ∧ DataE w p ∧ w.cell? (ad.add (k * 3)) = some (.int .u64 p.e.T) ∧ w.cell? ⟨(ad.add (k * 3)).block, (ad.add (k * 3)).off + 1, none⟩ = some (.int .i64 p.e.K) ∧ w.cell? ⟨(ad.add (k * 3)).block, (ad.add (k * 3)).off + 2, none⟩ = some (.slice p.A p.n p.c) := by
  obtain ⟨ad, rfl⟩ := h.1.addr (by omega)
  have hl : k < ps.length := by have := h.len; omega
  have hp := List.getElem?_eq_getElem hl
  obtain ⟨h1, h2, h3⟩ := em_get ps k _ hp
  exact ⟨ad, _, rfl, hp, h.2 _ (List.mem_of_getElem? hp), (h.1.2.2 ad rfl).2 _ _ h1, by have := (h.1.2.2 ad rfl).2 _ _ h2; rwa [← addr_add] at this, by have := (h.1.2.2 ad rfl).2 _ _ h3; rwa [← addr_add] at this⟩
theorem SeesE.take (h : SeesE w e A n ps) {k : Nat} (hk : k ≤ n) : SeesE w e A k (ps.take k) := ⟨by have := h.1.take hk; rwa [em_take] at this, fun p hp => h.2 p (List.mem_of_mem_take hp)⟩
theorem SeesE.drop (h : SeesE w e A n ps) {k cap : Nat} (hk : k ≤ n) (hc : n ≤ cap) : SeesE w e (if cap = k then A else A.map (·.add (k * 3))) (n - k) (ps.drop k) := ⟨by have := h.1.drop hk hc; rwa [em_drop] at this, fun p hp => h.2 p (List.mem_of_mem_drop hp)⟩
end

def es (ps : List EP) : List Ent := ps.map (·.e)
def wellE (e : Ent) : Bool := wellB e.T e.K e.D.length
/-- May entries stand behind a term? -/
def standB : List Ent → Int → Bool
  | [], _ => true
  | e :: l, t => wellE e && decide (t ≤ e.T) && standB l e.T

set_option maxHeartbeats 800000 in
theorem stand_any {e2 : Option TypeId} (A : Option Addr) (n c : Nat) (ps : List EP) (t : Int) (w : World) (hs : SeesE w e2 A n ps) (hn : n ≤ 1000000000) :
    Calls Try.prog 67 #[.slice A n c, .int .u64 t] w fun e w' => e = .returned (.bool (standB (es ps) t)) ∧ Below w.heap.size w w' := by
  have HPL := Lib.hid hs.len
  go_enter Try.func67, Try.ntmps67
  go_wp2
  go_loopw [1, 9] (fun s i wr => ∃ (k : Nat) (tk : Int), k ≤ n ∧ i = .int .i64 k ∧ s = .int .u64 tk ∧ Hid (standB (es (ps.drop k)) tk = standB (es ps) t) ∧ Below w.heap.size w wr) (fun _ i _ => n - (intOf i).toNat)
  case atStart => exact ⟨0, t, by omega, rfl, rfl, rfl, Below.refl _ _⟩
  case round =>
    obtain ⟨k, tk, hk, rfl, rfl, HS, hB⟩ := hrel
    by_cases hlt : k < n
    · obtain ⟨ad, p, rfl, hpk, hd, hc0, hc1, hc2⟩ := (hs.below hB).at_ hlt
      have HD : Hid (ps.drop k = p :: ps.drop (k + 1)) := by
        unfold Hid
        have hl := (List.getElem?_eq_some_iff.1 hpk).1
        rw [List.drop_eq_getElem_cons hl, (List.getElem?_eq_some_iff.1 hpk).2]
      have HW : Hid (wellB p.e.T p.e.K p.n = wellE p.e) := by unfold Hid wellE; rw [hd.len]
      have ht0 := hd.t0
      have hpn : p.n ≤ 9223372036854775807 := by have h1 := hd.nc; have h2 := hd.small; unfold maxLen at h2; omega
      clear hpk
      have q9 := Blk.new wr 46 #[.int .u64 p.e.T, .int .i64 p.e.K, .slice p.A p.n p.c]
      have hB' := hB.alloc hB.size (.cells #[.int .u64 p.e.T, .int .i64 p.e.K, .slice p.A p.n p.c] 46)
      have c9 := q9.cell 0
      simp at c9
      go_wp2_with fail
      refine (well_any p.e.T p.e.K p.A p.n p.c _ ht0 hpn).mono ?_
      rintro e x2 ⟨rfl, hb2⟩
      replace q9 := q9.below hb2
      have hB2 := hB'.trans (hb2.mono hB'.size)
      clear hb2 c9 hB'
      have c9 := q9.cell 0
      simp at c9
      have HN : Hid (standB (es (ps.drop k)) tk = (wellE p.e && decide (tk ≤ p.e.T) && standB (es (ps.drop (k + 1))) p.e.T)) := by unfold Hid; rw [HD.out]; rfl
      rw [HW.out]
      cases hw : wellE p.e with
      | false =>
        have HF : Hid (standB (es ps) t = false) := by unfold Hid; rw [← HS.out, HN.out, hw]; simp
        clear hw
        go_wp2
        go_ret
        exact ⟨(congrArg (fun b => Ending.returned (.bool b)) HF.out).symm, hB2⟩
      | true =>
        by_cases hge : tk ≤ p.e.T
        · have HF : Hid (standB (es (ps.drop (k + 1))) p.e.T = standB (es ps) t) := by unfold Hid; rw [← HS.out, HN.out, hw]; simp [hge]
          clear hw
          go_wp2
          go_roundw
          case rel => exact ⟨k + 1, p.e.T, by omega, by go_num, rfl, HF, hB2⟩
          case measure => simp [intOf]; omega
        · have HF : Hid (standB (es ps) t = false) := by unfold Hid; rw [← HS.out, HN.out, hw]; simp [hge]
          clear hw
          go_wp2
          go_ret
          exact ⟨(congrArg (fun b => Ending.returned (.bool b)) HF.out).symm, hB2⟩
    · obtain rfl : k = n := by omega
      have HF : Hid (standB (es ps) t = true) := by
        unfold Hid
        rw [← HS.out, List.drop_eq_nil_of_le (by have := HPL.out; omega)]
        rfl
      go_wp2
      go_ret
      exact ⟨(congrArg (fun b => Ending.returned (.bool b)) HF.out).symm, hB⟩
end Go.Proofs.Ytpckkajodpiiaaa
