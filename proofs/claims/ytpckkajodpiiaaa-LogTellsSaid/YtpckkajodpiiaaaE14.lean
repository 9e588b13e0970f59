/- The number of the spot of an index. No condition. -/
import Derived.Test.YtpckkajodpiiaaaRows
import Derived.Test.YtpckkajodpiiaaaBase
import Derived.Test.YtpckkajodpiiaaaLaw
import Derived.WalkKit
import Derived.BigQuiet
import Derived.Deep.QuietTactic
import Derived.Deep.RegionHeld3
import Derived.Deep.RegionWith
import Derived.Deep.CutRange
import Derived.Deep.CutBlock
import Derived.WalkLawsBesides
import Derived.Lib.Hide
import Derived.Test.YtpckkajodpiiaaaParIn
import Derived.RegionTactic
import Derived.ChangeAlike
import Derived.RangeFuncBox
import Derived.RangeFuncNested
import Derived.RangeFuncLeaves
import Derived.Shelf.Abstract
import Derived.OwnWalkIn
import Derived.TacticsInMore
import Derived.LoopNIn
import Derived.LoopIn
namespace Go.Proofs.Ytpckkajodpiiaaa
open Go.RowKit
set_option linter.unusedVariables false
set_option linter.unusedSimpArgs false

/-- Is there an index for each of so many behind one? -/
def roomB (i : Int) (n : Nat) : Bool := decide (i ≤ 18446744073709551614) && decide ((n : Int) ≤ 18446744073709551614 - i)
/-- May an entry be? (its Term, its Kind, how many bytes it has) -/
def wellB (T K : Int) (n : Nat) : Bool := (decide (K = 2) || decide (K = 3) || (decide (K = 1) && decide (n = 0))) && decide (0 < T) && decide (n ≤ 1024)

theorem room_any (i : Int) (n : Nat) (w : World) (h0 : 0 ≤ i) (h1 : i < 18446744073709551616) (hn : n ≤ 9223372036854775807) :
    Calls Try.prog 66 #[.int .u64 i, .int .i64 n] w fun e w' => e = .returned (.bool (roomB i n)) ∧ w = w' := by
  go_enter Try.func66, Try.ntmps66
  by_cases h : i ≤ 18446744073709551614
  · have e1 : IntKind.u64.wrap (18446744073709551614 - i) = 18446744073709551614 - i := by simp [IntKind.wrap, IntKind.bits, IntKind.signed]; omega
    have e2 : IntKind.u64.wrap (n : Int) = (n : Int) := by simp [IntKind.wrap, IntKind.bits, IntKind.signed]; omega
    go_wp2
    go_ret
    exact ⟨by simp [roomB, h, e1, e2], rfl⟩
  · go_wp2
    go_ret
    exact ⟨by simp [roomB]; omega, rfl⟩

theorem well_any (T K : Int) (A : Option Addr) (n c : Nat) (w : World) (h0 : 0 ≤ T) (hn : n ≤ 9223372036854775807) :
    Calls Try.prog 72 #[.agg #[.int .u64 T, .int .i64 K, .slice A n c]] w fun e w' => e = .returned (.bool (wellB T K n)) ∧ Below w.heap.size w w' := by
  go_enter Try.func72, Try.ntmps72
  go_wp2
  all_goals
    go_ret
    refine ⟨?_, (Below.refl _ w).alloc (Nat.le_refl _) _⟩
    congr 2
    simp only [wellB]
    simp_all
    try omega
end Go.Proofs.Ytpckkajodpiiaaa

namespace Go.Proofs.Ytpckkajodpiiaaa
open Go.RowKit
set_option linter.unusedVariables false
set_option linter.unusedSimpArgs false

/-- An entry: its Term, its Kind, its bytes. -/
structure Ent where
  T : Int
  K : Int
  D : List Int
/-- An entry with the place where its bytes lie. -/
structure EP where
  e : Ent
  A : Option Addr
  n : Nat
  c : Nat
def em (ps : List EP) : List Value := ps.flatMap fun p => [.int .u64 p.e.T, .int .i64 p.e.K, .slice p.A p.n p.c]
theorem em_get : ∀ (ps : List EP) (i : Nat) (p : EP), ps[i]? = some p → (em ps)[i * 3]? = some (.int .u64 p.e.T) ∧ (em ps)[i * 3 + 1]? = some (.int .i64 p.e.K) ∧ (em ps)[i * 3 + 2]? = some (.slice p.A p.n p.c)
  | [], i, p, h => by simp at h
  | q :: ps, 0, p, h => by
    simp at h
    subst h
    simp [em]
  | q :: ps, i + 1, p, h => by
    have := em_get ps i p (by simpa using h)
    unfold em at this ⊢
    rw [List.flatMap_cons, show (i + 1) * 3 = i * 3 + 3 by omega, show i * 3 + 3 + 1 = i * 3 + 1 + 3 by omega, show i * 3 + 3 + 2 = i * 3 + 2 + 3 by omega]
    simpa using this
theorem em_len (ps : List EP) : (em ps).length = ps.length * 3 := by
  induction ps with
  | nil => rfl
  | cons p ps ih => unfold em at ih ⊢; rw [List.flatMap_cons, List.length_append, ih]; simp; omega
theorem em_app (a b : List EP) : em (a ++ b) = em a ++ em b := by unfold em; rw [List.flatMap_append]
theorem em_take (ps : List EP) (k : Nat) : (em ps).take (k * 3) = em (ps.take k) := by
  induction ps generalizing k with
  | nil => simp [em]
  | cons p ps ih =>
    cases k with
    | zero => simp [em]
    | succ k => unfold em at ih ⊢; rw [List.take_succ_cons, List.flatMap_cons, List.flatMap_cons, ← ih, show (k + 1) * 3 = k * 3 + 1 + 1 + 1 by omega]; rfl
theorem em_drop (ps : List EP) (k : Nat) : (em ps).drop (k * 3) = em (ps.drop k) := by
  induction ps generalizing k with
  | nil => simp [em]
  | cons p ps ih =>
    cases k with
    | zero => simp [em]
    | succ k => unfold em at ih ⊢; rw [List.drop_succ_cons, List.flatMap_cons, ← ih, show (k + 1) * 3 = k * 3 + 1 + 1 + 1 by omega]; rfl
theorem em_one (ps : List EP) : ∀ u ∈ em ps, u.oneCell' = true := by
  intro u hu
  unfold em at hu
  rw [List.mem_flatMap] at hu
  obtain ⟨p, _, hp⟩ := hu
  simp at hp
  rcases hp with rfl | rfl | rfl <;> rfl

/-- An entry's bytes lie where it says, and its numbers are such. -/
structure DataE (w : World) (p : EP) : Prop where
  sees : Sees w none 1 p.A p.n (ib .u8 p.e.D)
  nc : p.n ≤ p.c
  small : p.c ≤ maxLen
  t0 : 0 ≤ p.e.T
  t1 : p.e.T < 18446744073709551616
theorem DataE.below {w w' : World} {p : EP} (h : DataE w p) (hb : Below w.heap.size w w') : DataE w' p := ⟨h.sees.below hb, h.nc, h.small, h.t0, h.t1⟩
theorem DataE.len {w : World} {p : EP} (h : DataE w p) : p.e.D.length = p.n := by have := h.sees.1; simpa [ib] using this
/-- A row of entries. -/
def SeesE (w : World) (e : Option TypeId) (A : Option Addr) (n : Nat) (ps : List EP) : Prop := Sees w e 3 A n (em ps) ∧ ∀ p ∈ ps, DataE w p
section
variable {w w' : World} {e : Option TypeId} {A : Option Addr} {n : Nat} {ps : List EP}
theorem SeesE.below (h : SeesE w e A n ps) (hb : Below w.heap.size w w') : SeesE w' e A n ps := ⟨h.1.below hb, fun p hp => (h.2 p hp).below hb⟩
theorem SeesE.alloc (h : SeesE w e A n ps) (o : Obj) : SeesE (w.alloc o) e A n ps := h.below ((Below.refl _ _).alloc (Nat.le_refl _) _)
theorem SeesE.len (h : SeesE w e A n ps) : ps.length = n := by have := h.1.1; rw [em_len] at this; omega
theorem SeesE.at_ (h : SeesE w e A n ps) {k : Nat} (hk : k < n) :
    ∃ ad p, A = some ad ∧ ps[k]? = some p ∧ DataE w p ∧ w.cell? (ad.add (k * 3)) = some (.int .u64 p.e.T) ∧ w.cell? ⟨(ad.add (k * 3)).block, (ad.add (k * 3)).off + 1, none⟩ = some (.int .i64 p.e.K) ∧ w.cell? ⟨(ad.add (k * 3)).block, (ad.add (k * 3)).off + 2, none⟩ = some (.slice p.A p.n p.c) := by
  obtain ⟨ad, rfl⟩ := h.1.addr (by omega)
  have hl : k < ps.length := by have := h.len; omega
  have hp := List.getElem?_eq_getElem hl
  obtain ⟨h1, h2, h3⟩ := em_get ps k _ hp
  exact ⟨ad, _, rfl, hp, h.2 _ (List.mem_of_getElem? hp), (h.1.2.2 ad rfl).2 _ _ h1, by have := (h.1.2.2 ad rfl).2 _ _ h2; rwa [← addr_add] at this, by have := (h.1.2.2 ad rfl).2 _ _ h3; rwa [← addr_add] at this⟩
theorem SeesE.take (h : SeesE w e A n ps) {k : Nat} (hk : k ≤ n) : SeesE w e A k (ps.take k) := ⟨by have := h.1.take hk; rwa [em_take] at this, fun p hp => h.2 p (List.mem_of_mem_take hp)⟩
theorem SeesE.drop (h : SeesE w e A n ps) {k cap : Nat} (hk : k ≤ n) (hc : n ≤ cap) : SeesE w e (if cap = k then A else A.map (·.add (k * 3))) (n - k) (ps.drop k) := ⟨by have := h.1.drop hk hc; rwa [em_drop] at this, fun p hp => h.2 p (List.mem_of_mem_drop hp)⟩
end

def es (ps : List EP) : List Ent := ps.map (·.e)
def wellE (e : Ent) : Bool := wellB e.T e.K e.D.length
/-- May entries stand behind a term? -/
def standB : List Ent → Int → Bool
  | [], _ => true
  | e :: l, t => wellE e && decide (t ≤ e.T) && standB l e.T

set_option maxHeartbeats 800000 in
theorem stand_any {e2 : Option TypeId} (A : Option Addr) (n c : Nat) (ps : List EP) (t : Int) (w : World) (hs : SeesE w e2 A n ps) (hn : n ≤ 1000000000) :
    Calls Try.prog 67 #[.slice A n c, .int .u64 t] w fun e w' => e = .returned (.bool (standB (es ps) t)) ∧ Below w.heap.size w w' := by
  have HPL := Lib.hid hs.len
  go_enter Try.func67, Try.ntmps67
  go_wp2
  go_loopw [1, 9] (fun s i wr => ∃ (k : Nat) (tk : Int), k ≤ n ∧ i = .int .i64 k ∧ s = .int .u64 tk ∧ Hid (standB (es (ps.drop k)) tk = standB (es ps) t) ∧ Below w.heap.size w wr) (fun _ i _ => n - (intOf i).toNat)
  case atStart => exact ⟨0, t, by omega, rfl, rfl, rfl, Below.refl _ _⟩
  case round =>
    obtain ⟨k, tk, hk, rfl, rfl, HS, hB⟩ := hrel
    by_cases hlt : k < n
    · obtain ⟨ad, p, rfl, hpk, hd, hc0, hc1, hc2⟩ := (hs.below hB).at_ hlt
      have HD : Hid (ps.drop k = p :: ps.drop (k + 1)) := by
        unfold Hid
        have hl := (List.getElem?_eq_some_iff.1 hpk).1
        rw [List.drop_eq_getElem_cons hl, (List.getElem?_eq_some_iff.1 hpk).2]
      have HW : Hid (wellB p.e.T p.e.K p.n = wellE p.e) := by unfold Hid wellE; rw [hd.len]
      have ht0 := hd.t0
      have hpn : p.n ≤ 9223372036854775807 := by have h1 := hd.nc; have h2 := hd.small; unfold maxLen at h2; omega
      clear hpk
      have q9 := Blk.new wr 46 #[.int .u64 p.e.T, .int .i64 p.e.K, .slice p.A p.n p.c]
      have hB' := hB.alloc hB.size (.cells #[.int .u64 p.e.T, .int .i64 p.e.K, .slice p.A p.n p.c] 46)
      have c9 := q9.cell 0
      simp at c9
      go_wp2_with fail
      refine (well_any p.e.T p.e.K p.A p.n p.c _ ht0 hpn).mono ?_
      rintro e x2 ⟨rfl, hb2⟩
      replace q9 := q9.below hb2
      have hB2 := hB'.trans (hb2.mono hB'.size)
      clear hb2 c9 hB'
      have c9 := q9.cell 0
      simp at c9
      have HN : Hid (standB (es (ps.drop k)) tk = (wellE p.e && decide (tk ≤ p.e.T) && standB (es (ps.drop (k + 1))) p.e.T)) := by unfold Hid; rw [HD.out]; rfl
      rw [HW.out]
      cases hw : wellE p.e with
      | false =>
        have HF : Hid (standB (es ps) t = false) := by unfold Hid; rw [← HS.out, HN.out, hw]; simp
        clear hw
        go_wp2
        go_ret
        exact ⟨(congrArg (fun b => Ending.returned (.bool b)) HF.out).symm, hB2⟩
      | true =>
        by_cases hge : tk ≤ p.e.T
        · have HF : Hid (standB (es (ps.drop (k + 1))) p.e.T = standB (es ps) t) := by unfold Hid; rw [← HS.out, HN.out, hw]; simp [hge]
          clear hw
          go_wp2
          go_roundw
          case rel => exact ⟨k + 1, p.e.T, by omega, by go_num, rfl, HF, hB2⟩
          case measure => simp [intOf]; omega
        · have HF : Hid (standB (es ps) t = false) := by unfold Hid; rw [← HS.out, HN.out, hw]; simp [hge]
          clear hw
          go_wp2
          go_ret
          exact ⟨(congrArg (fun b => Ending.returned (.bool b)) HF.out).symm, hB2⟩
    · obtain rfl : k = n := by omega
      have HF : Hid (standB (es ps) t = true) := by
        unfold Hid
        rw [← HS.out, List.drop_eq_nil_of_le (by have := HPL.out; omega)]
        rfl
      go_wp2
      go_ret
      exact ⟨(congrArg (fun b => Ending.returned (.bool b)) HF.out).symm, hB⟩
end Go.Proofs.Ytpckkajodpiiaaa

namespace Go.Proofs.Ytpckkajodpiiaaa
open Go.RowKit
set_option linter.unusedVariables false
set_option linter.unusedSimpArgs false

theorem room'_any (i : Int) (n : Nat) (w : World) (h0 : 0 ≤ i) (h1 : i < 18446744073709551616) (hn : n ≤ 9223372036854775807) :
    Calls Try.prog 52 #[.int .u64 i, .int .i64 n] w fun e w' => e = .returned (.bool (roomB i n)) ∧ w = w' := by
  go_enter Try.func52, Try.ntmps52
  by_cases h : i ≤ 18446744073709551614
  · have e1 : IntKind.u64.wrap (18446744073709551614 - i) = 18446744073709551614 - i := by simp [IntKind.wrap, IntKind.bits, IntKind.signed]; omega
    have e2 : IntKind.u64.wrap (n : Int) = (n : Int) := by simp [IntKind.wrap, IntKind.bits, IntKind.signed]; omega
    go_wp2
    go_ret
    exact ⟨by simp [roomB, h, e1, e2], rfl⟩
  · go_wp2
    go_ret
    exact ⟨by simp [roomB]; omega, rfl⟩

theorem rightEntry_any (T K : Int) (A : Option Addr) (n c : Nat) (w : World) (h0 : 0 ≤ T) (hn : n ≤ 9223372036854775807) :
    Calls Try.prog 69 #[.agg #[.int .u64 T, .int .i64 K, .slice A n c]] w fun e w' => e = .returned (.bool (wellB T K n)) ∧ Below w.heap.size w w' := by
  go_enter Try.func69, Try.ntmps69
  go_wp2
  all_goals
    go_ret
    refine ⟨?_, (Below.refl _ w).alloc (Nat.le_refl _) _⟩
    congr 2
    simp only [wellB]
    simp_all
    try omega
    try (have hT : 0 < T := by omega
         by_cases hz : n = 0 <;> simp_all <;> omega)

def logV (i t : Int) (A : Option Addr) (n c : Nat) : Value := .agg #[.int .u64 i, .int .u64 t, .slice A n c]
/-- May a log be? -/
def mayB (i t : Int) (l : List Ent) : Bool := decide ((0 < i) = (0 < t)) && decide (l.length ≤ 16) && roomB i l.length && standB l t

set_option maxHeartbeats 800000 in
theorem may_any {e2 : Option TypeId} (i t : Int) (A : Option Addr) (n c : Nat) (ps : List EP) (w : World) (hs : SeesE w e2 A n ps) (hn : n ≤ 1000000000) (hi0 : 0 ≤ i) (hi1 : i < 18446744073709551616) :
    Calls Try.prog 45 #[logV i t A n c] w fun e w' => e = .returned (.bool (mayB i t (es ps))) ∧ Below w.heap.size w w' := by
  have HPL := Lib.hid hs.len
  have HB := Lib.hid ((Below.refl _ w).alloc (Nat.le_refl _) (.cells #[.int .u64 i, .int .u64 t, .slice A n c] 79))
  have hs' := hs.alloc (.cells #[.int .u64 i, .int .u64 t, .slice A n c] 79)
  unfold logV
  go_enter Try.func45, Try.ntmps45
  have hel : (es ps).length = n := by unfold es; rw [List.length_map]; exact HPL.out
  have HM : Hid (mayB i t (es ps) = (decide ((0 < i) = (0 < t)) && decide (n ≤ 16) && roomB i n && standB (es ps) t)) := by unfold Hid mayB; rw [hel]
  clear hel
  by_cases hit : 0 < i ↔ 0 < t
  · by_cases h16 : n ≤ 16
    · have h16' : ¬ (16 < (n : Int)) := by omega
      go_wp2_with (first
        | (go_at_call 66; refine (room_any i n _ hi0 hi1 (by omega)).mono ?_; rintro e x1 ⟨rfl, rfl⟩; cases hr : roomB i n)
        | (go_at_call 67; refine (stand_any A n c ps t _ hs' hn).mono ?_; rintro e x2 ⟨rfl, hb2⟩))
      · go_ret
        refine ⟨?_, HB.out⟩
        rw [HM.out, hr]
        simp
      · go_ret
        refine ⟨?_, HB.out.trans (hb2.mono HB.out.size)⟩
        rw [HM.out, hr]
        simp [hit, h16]
    · have HF : Hid (mayB i t (es ps) = false) := by unfold Hid; rw [HM.out]; simp [h16]
      have h16' : 16 < (n : Int) := by omega
      go_wp2
      go_ret
      exact ⟨(congrArg (fun b => Ending.returned (.bool b)) HF.out).symm, HB.out⟩
  · have HF : Hid (mayB i t (es ps) = false) := by unfold Hid; rw [HM.out]; simp [hit]
    have hne : (!decide (0 < i) == decide (0 < t)) = true := by by_cases h1 : 0 < i <;> by_cases h2 : 0 < t <;> simp_all
    go_wp2
    go_ret
    exact ⟨(congrArg (fun b => Ending.returned (.bool b)) HF.out).symm, HB.out⟩
end Go.Proofs.Ytpckkajodpiiaaa

namespace Go.Proofs.Ytpckkajodpiiaaa
open Go.RowKit
set_option linter.unusedVariables false
set_option linter.unusedSimpArgs false

/-- What the region of Behind knows of each of its slots. -/
def PhiBehind (ad : Addr) (n c : Nat) (p : EP) (t : Int) (rest : Value) (b1 b2 b3 : Bool) (R : Bool) : Nat → Value → World → Prop
  | 0, v, _ => v = .slice (some ad) n c
  | 1, v, _ => v = .pointer (some ad)
  | 2, v, _ => v = .agg #[.int .u64 p.e.T, .int .i64 p.e.K, .slice p.A p.n p.c]
  | 3, v, _ => v = .bool b1
  | 4, v, _ => v = .bool b1
  | 5, v, _ => b1 = true → v = .slice (some ad) n c
  | 6, v, _ => b1 = true → v = .pointer (some ad)
  | 7, v, _ => b1 = true → v = .pointer (some ad)
  | 8, v, _ => b1 = true → v = .int .u64 p.e.T
  | 9, v, _ => b1 = true → v = .int .u64 t
  | 10, v, _ => b1 = true → v = .bool (decide (t ≤ p.e.T))
  | 11, v, _ => v = .bool b2
  | 12, v, _ => v = .bool b2
  | 13, v, _ => b2 = true → v = .slice (some ad) n c
  | 14, v, _ => b2 = true → v = rest
  | 15, v, _ => b2 = true → v = .slice (some ad) n c
  | 16, v, _ => b2 = true → v = .pointer (some ad)
  | 17, v, _ => b2 = true → v = .pointer (some ad)
  | 18, v, _ => b2 = true → v = .int .u64 p.e.T
  | 19, v, _ => b2 = true → v = .bool R
  | 20, v, _ => v = .bool b3
  | 21, v, _ => v = .bool b3
  | _, _, _ => True
theorem phiBehind_stab (ad : Addr) (n c : Nat) (p : EP) (t : Int) (rest : Value) (b1 b2 b3 : Bool) (R : Bool) (i : Nat) (v : Value) (w1 w2 : World)
    (h : PhiBehind ad n c p t rest b1 b2 b3 R i v w1) (hb : Below w1.heap.size w1 w2) : PhiBehind ad n c p t rest b1 b2 b3 R i v w2 := by
  unfold PhiBehind at h ⊢
  split <;> simp_all

set_option maxHeartbeats 4000000 in
theorem behind_any : ∀ (ps : List EP) {e2 : Option TypeId} (A : Option Addr) (n c : Nat) (t : Int) (w : World), SeesE w e2 A n ps → n ≤ c → n ≤ 1000000000 →
    Calls Try.prog 51 #[.slice A n c, .int .u64 t] w fun e w' => e = .returned (.bool (standB (es ps) t)) ∧ Below w.heap.size w w'
  | [], e2, A, n, c, t, w, hs, hnc, hn => by
    obtain rfl : n = 0 := hs.len.symm
    go_enter Try.func51, Try.ntmps51
    go_wp2
    go_ret
    exact ⟨rfl, Below.refl _ _⟩
  | p :: ps, e2, A, n, c, t, w, hs, hnc, hn => by
    have hn1 : n = ps.length + 1 := by have := hs.len; simp at this; omega
    have h0 : 0 < n := by omega
    obtain ⟨ad, p', rfl, hp, hd, hc0, hc1, hc2⟩ := hs.at_ h0
    obtain rfl : p = p' := by simpa using hp
    clear hp
    simp [Addr.add] at hc0 hc1 hc2
    have HW : Hid (wellB p.e.T p.e.K p.n = wellE p.e) := by unfold Hid wellE; rw [hd.len]
    have ht0 := hd.t0
    have hpn : p.n ≤ 9223372036854775807 := by have h1 := hd.nc; have h2 := hd.small; unfold maxLen at h2; omega
    have HR : Hid (SeesE w e2 (if c = 1 then some ad else some ⟨ad.block, ad.off + 3, none⟩) (n - 1) ps) := by
      unfold Hid
      have := hs.drop (k := 1) h0 hnc
      simpa [Addr.add] using this
    obtain ⟨b1, hb1⟩ : ∃ b1, b1 = wellE p.e := ⟨_, rfl⟩
    obtain ⟨b2, hb2⟩ : ∃ b2, b2 = (b1 && decide (t ≤ p.e.T)) := ⟨_, rfl⟩
    obtain ⟨R, hR⟩ : ∃ R, R = standB (es ps) p.e.T := ⟨_, rfl⟩
    obtain ⟨b3, hb3⟩ : ∃ b3, b3 = (b2 && R) := ⟨_, rfl⟩
    have HF : Hid (standB (es (p :: ps)) t = b3) := by unfold Hid; rw [hb3, hb2, hb1, hR]; rfl
    have HB1 := Lib.hid hb1
    have HB2 := Lib.hid hb2
    have HB3 := Lib.hid hb3
    have HRR := Lib.hid hR
    clear hb1 hb2 hb3 hR
    have hne : ((n : Int) == 0) = false := by simp; omega
    clear hn1
    go_enter Try.func51, Try.ntmps51
    go_upto_region 3 with fail
    refine wp_region_par_all 22 [8, 9, 10, 11, 12, 13, 14, 15, 16, 17, 18, 19, 20, 21, 22, 23, 24, 25, 26, 27, 28, 4] (fun _ => false) (PhiBehind ad n c p t (.slice (if c = 1 then some ad else some ⟨ad.block, ad.off + 3, none⟩) (n - 1) (c - 1)) b1 b2 b3 R) (by kernel_rfl) (by kernel_rfl) (phiBehind_stab _ _ _ _ _ _ _ _ _ _) ?steps ?fin
    case steps =>
      simp only [StepsPar]
      refine ⟨?_, ?_, ?_, ?_, ?_, ?_, ?_, ?_, ?_, ?_, ?_, ?_, ?_, ?_, ?_, ?_, ?_, ?_, ?_, ?_, ?_, ?_, trivial⟩
      all_goals
        intro x w1x hb hd K hK
        have c0 := (hb.cell (World.block_lt_of_cell? w _ hc0)).trans hc0
        have c1 := (hb.cell (World.block_lt_of_cell? w _ hc1)).trans hc1
        have c2 := (hb.cell (World.block_lt_of_cell? w _ hc2)).trans hc2
        simp only [frameOf, slots, Act.put, List.setIfInBounds_toArray, List.set_cons_zero, List.set_cons_succ] at hK ⊢
      · go_simp
        exact hK _ _ (rfl) (Below.refl _ _) (fun h => absurd h (by decide))
      · have e0 : x 0 = .slice (some ad) n c := hd ⟨0, .data⟩ (by simp) rfl
        simp only [e0] at hK ⊢
        go_simp
        exact hK _ _ (rfl) (Below.refl _ _) (fun h => absurd h (by decide))
      · have e1 : x 1 = .pointer (some ad) := hd ⟨1, .data⟩ (by simp) rfl
        simp only [e1] at hK ⊢
        go_simp
        exact hK _ _ (rfl) (Below.refl _ _) (fun h => absurd h (by decide))
      · have e2 : x 2 = .agg #[.int .u64 p.e.T, .int .i64 p.e.K, .slice p.A p.n p.c] := hd ⟨2, .data⟩ (by simp) rfl
        simp only [e2] at hK ⊢
        go_simp
        refine (rightEntry_any p.e.T p.e.K p.A p.n p.c w1x ht0 hpn).mono ?_
        rw [HW.out, ← HB1.out]
        rintro e w2x ⟨rfl, hb2⟩
        exact hK _ _ rfl hb2 (fun h => absurd h (by decide))
      · have e3 : x 3 = .bool b1 := hd ⟨3, .data⟩ (by simp) rfl
        simp only [e3] at hK ⊢
        go_simp
        exact hK _ _ (rfl) (Below.refl _ _) (fun h => absurd h (by decide))
      · have dg := hd ⟨4, .guard⟩ (by simp) rfl
        simp only [PhiBehind] at dg
        simp only [dg] at hK ⊢
        cases b1 with
        | false =>
          go_simp
          exact hK _ _ (fun h => absurd h (by decide)) (Below.refl _ _) (fun h => absurd h (by decide))
        | true =>
          go_simp
          exact hK _ _ (fun _ => rfl) (Below.refl _ _) (fun h => absurd h (by decide))
      · have dg := hd ⟨4, .guard⟩ (by simp) rfl
        simp only [PhiBehind] at dg
        simp only [dg] at hK ⊢
        cases b1 with
        | false =>
          go_simp
          exact hK _ _ (fun h => absurd h (by decide)) (Below.refl _ _) (fun h => absurd h (by decide))
        | true =>
          have e5 : x 5 = .slice (some ad) n c := hd ⟨5, .data⟩ (by simp) rfl rfl
          simp only [e5] at hK ⊢
          go_simp
          exact hK _ _ (fun _ => rfl) (Below.refl _ _) (fun h => absurd h (by decide))
      · have dg := hd ⟨4, .guard⟩ (by simp) rfl
        simp only [PhiBehind] at dg
        simp only [dg] at hK ⊢
        cases b1 with
        | false =>
          go_simp
          exact hK _ _ (fun h => absurd h (by decide)) (Below.refl _ _) (fun h => absurd h (by decide))
        | true =>
          have e6 : x 6 = .pointer (some ad) := hd ⟨6, .data⟩ (by simp) rfl rfl
          simp only [e6] at hK ⊢
          go_simp
          exact hK _ _ (fun _ => rfl) (Below.refl _ _) (fun h => absurd h (by decide))
      · have dg := hd ⟨4, .guard⟩ (by simp) rfl
        simp only [PhiBehind] at dg
        simp only [dg] at hK ⊢
        cases b1 with
        | false =>
          go_simp
          exact hK _ _ (fun h => absurd h (by decide)) (Below.refl _ _) (fun h => absurd h (by decide))
        | true =>
          have e7 : x 7 = .pointer (some ad) := hd ⟨7, .data⟩ (by simp) rfl rfl
          simp only [e7] at hK ⊢
          go_simp
          exact hK _ _ (fun _ => rfl) (Below.refl _ _) (fun h => absurd h (by decide))
      · have dg := hd ⟨4, .guard⟩ (by simp) rfl
        simp only [PhiBehind] at dg
        simp only [dg] at hK ⊢
        cases b1 with
        | false =>
          go_simp
          exact hK _ _ (fun h => absurd h (by decide)) (Below.refl _ _) (fun h => absurd h (by decide))
        | true =>
          go_simp
          exact hK _ _ (fun _ => rfl) (Below.refl _ _) (fun h => absurd h (by decide))
      · have dg := hd ⟨4, .guard⟩ (by simp) rfl
        simp only [PhiBehind] at dg
        simp only [dg] at hK ⊢
        cases b1 with
        | false =>
          go_simp
          exact hK _ _ (fun h => absurd h (by decide)) (Below.refl _ _) (fun h => absurd h (by decide))
        | true =>
          have e8 : x 8 = .int .u64 p.e.T := hd ⟨8, .data⟩ (by simp) rfl rfl
          have e9 : x 9 = .int .u64 t := hd ⟨9, .data⟩ (by simp) rfl rfl
          simp only [e8, e9] at hK ⊢
          go_simp
          exact hK _ _ (fun _ => rfl) (Below.refl _ _) (fun h => absurd h (by decide))
      · have e4 : x 4 = .bool b1 := hd ⟨4, .data⟩ (by simp) rfl
        simp only [e4] at hK ⊢
        cases b1 with
        | false =>
          go_simp
          exact hK _ _ (by simp [PhiBehind, HB2.out]) (Below.refl _ _) (fun h => absurd h (by decide))
        | true =>
          have e10 : x 10 = .bool (decide (t ≤ p.e.T)) := hd ⟨10, .data⟩ (by simp) rfl rfl
          simp only [e10] at hK ⊢
          go_simp
          exact hK _ _ (by simp [PhiBehind, HB2.out]) (Below.refl _ _) (fun h => absurd h (by decide))
      · have e11 : x 11 = .bool b2 := hd ⟨11, .data⟩ (by simp) rfl
        simp only [e11] at hK ⊢
        go_simp
        exact hK _ _ (rfl) (Below.refl _ _) (fun h => absurd h (by decide))
      · have dg := hd ⟨12, .guard⟩ (by simp) rfl
        simp only [PhiBehind] at dg
        simp only [dg] at hK ⊢
        cases b2 with
        | false =>
          go_simp
          exact hK _ _ (fun h => absurd h (by decide)) (Below.refl _ _) (fun h => absurd h (by decide))
        | true =>
          go_simp
          exact hK _ _ (fun _ => rfl) (Below.refl _ _) (fun h => absurd h (by decide))
      · have dg := hd ⟨12, .guard⟩ (by simp) rfl
        simp only [PhiBehind] at dg
        simp only [dg] at hK ⊢
        cases b2 with
        | false =>
          go_simp
          exact hK _ _ (fun h => absurd h (by decide)) (Below.refl _ _) (fun h => absurd h (by decide))
        | true =>
          have e13 : x 13 = .slice (some ad) n c := hd ⟨13, .data⟩ (by simp) rfl rfl
          simp only [e13] at hK ⊢
          have h1n : (1 : Int) ≤ (n : Int) := by omega
          go_simp
          try (rw [if_pos h1n]; go_simp)
          exact hK _ _ (fun _ => rfl) (Below.refl _ _) (fun h => absurd h (by decide))
      · have dg := hd ⟨12, .guard⟩ (by simp) rfl
        simp only [PhiBehind] at dg
        simp only [dg] at hK ⊢
        cases b2 with
        | false =>
          go_simp
          exact hK _ _ (fun h => absurd h (by decide)) (Below.refl _ _) (fun h => absurd h (by decide))
        | true =>
          go_simp
          exact hK _ _ (fun _ => rfl) (Below.refl _ _) (fun h => absurd h (by decide))
      · have dg := hd ⟨12, .guard⟩ (by simp) rfl
        simp only [PhiBehind] at dg
        simp only [dg] at hK ⊢
        cases b2 with
        | false =>
          go_simp
          exact hK _ _ (fun h => absurd h (by decide)) (Below.refl _ _) (fun h => absurd h (by decide))
        | true =>
          have e15 : x 15 = .slice (some ad) n c := hd ⟨15, .data⟩ (by simp) rfl rfl
          simp only [e15] at hK ⊢
          go_simp
          exact hK _ _ (fun _ => rfl) (Below.refl _ _) (fun h => absurd h (by decide))
      · have dg := hd ⟨12, .guard⟩ (by simp) rfl
        simp only [PhiBehind] at dg
        simp only [dg] at hK ⊢
        cases b2 with
        | false =>
          go_simp
          exact hK _ _ (fun h => absurd h (by decide)) (Below.refl _ _) (fun h => absurd h (by decide))
        | true =>
          have e16 : x 16 = .pointer (some ad) := hd ⟨16, .data⟩ (by simp) rfl rfl
          simp only [e16] at hK ⊢
          go_simp
          exact hK _ _ (fun _ => rfl) (Below.refl _ _) (fun h => absurd h (by decide))
      · have dg := hd ⟨12, .guard⟩ (by simp) rfl
        simp only [PhiBehind] at dg
        simp only [dg] at hK ⊢
        cases b2 with
        | false =>
          go_simp
          exact hK _ _ (fun h => absurd h (by decide)) (Below.refl _ _) (fun h => absurd h (by decide))
        | true =>
          have e17 : x 17 = .pointer (some ad) := hd ⟨17, .data⟩ (by simp) rfl rfl
          simp only [e17] at hK ⊢
          go_simp
          exact hK _ _ (fun _ => rfl) (Below.refl _ _) (fun h => absurd h (by decide))
      · have dg := hd ⟨12, .guard⟩ (by simp) rfl
        simp only [PhiBehind] at dg
        simp only [dg] at hK ⊢
        cases b2 with
        | false =>
          go_simp
          exact hK _ _ (fun h => absurd h (by decide)) (Below.refl _ _) (fun h => absurd h (by decide))
        | true =>
          have e14 : x 14 = .slice (if c = 1 then some ad else some ⟨ad.block, ad.off + 3, none⟩) (n - 1) (c - 1) := hd ⟨14, .data⟩ (by simp) rfl rfl
          have e18 : x 18 = .int .u64 p.e.T := hd ⟨18, .data⟩ (by simp) rfl rfl
          simp only [e14, e18] at hK ⊢
          go_simp
          refine (behind_any ps _ (n - 1) (c - 1) p.e.T w1x (HR.out.below hb) (by omega) (by omega)).mono ?_
          rw [← HRR.out]
          rintro e w2x ⟨rfl, hb2⟩
          exact hK _ _ (fun _ => rfl) hb2 (fun h => absurd h (by decide))
      · have e12 : x 12 = .bool b2 := hd ⟨12, .data⟩ (by simp) rfl
        simp only [e12] at hK ⊢
        cases b2 with
        | false =>
          go_simp
          exact hK _ _ (by simp [PhiBehind, HB3.out]) (Below.refl _ _) (fun h => absurd h (by decide))
        | true =>
          have e19 : x 19 = .bool R := hd ⟨19, .data⟩ (by simp) rfl rfl
          simp only [e19] at hK ⊢
          go_simp
          exact hK _ _ (by simp [PhiBehind, HB3.out]) (Below.refl _ _) (fun h => absurd h (by decide))
      · have e20 : x 20 = .bool b3 := hd ⟨20, .data⟩ (by simp) rfl
        simp only [e20] at hK ⊢
        go_simp
        exact hK _ _ (rfl) (Below.refl _ _) (fun h => absurd h (by decide))
    case fin =>
      intro x wl hb hx _
      have e21 : x 21 = .bool b3 := hx 21 (by omega)
      simp only [frameOf, slots, Act.put, List.setIfInBounds_toArray, List.set_cons_zero, List.set_cons_succ, e21]
      go_wp2
      go_ret
      exact ⟨(congrArg (fun b => Ending.returned (.bool b)) HF.out).symm, hb⟩
end Go.Proofs.Ytpckkajodpiiaaa

namespace Go.Proofs.Ytpckkajodpiiaaa
open Go.RowKit
set_option linter.unusedVariables false
set_option linter.unusedSimpArgs false

set_option maxHeartbeats 800000 in
theorem lright_any {e2 : Option TypeId} (i t : Int) (A : Option Addr) (n c : Nat) (ps : List EP) (w : World) (hs : SeesE w e2 A n ps) (hnc : n ≤ c) (hn : n ≤ 1000000000) (hi0 : 0 ≤ i) (hi1 : i < 18446744073709551616) (ht0 : 0 ≤ t) :
    Calls Try.prog 19 #[logV i t A n c] w fun e w' => e = .returned (.bool (mayB i t (es ps))) ∧ Below w.heap.size w w' := by
  have HPL := Lib.hid hs.len
  have HB := Lib.hid ((Below.refl _ w).alloc (Nat.le_refl _) (.cells #[.int .u64 i, .int .u64 t, .slice A n c] 27))
  have hs' := hs.alloc (.cells #[.int .u64 i, .int .u64 t, .slice A n c] 27)
  have k1 := Blk.new w 27 #[.int .u64 i, .int .u64 t, .slice A n c]
  unfold logV
  go_enter Try.func19, Try.ntmps19
  have hel : (es ps).length = n := by unfold es; rw [List.length_map]; exact HPL.out
  have HM : Hid (mayB i t (es ps) = (decide ((0 < i) = (0 < t)) && decide (n ≤ 16) && roomB i n && standB (es ps) t)) := by unfold Hid mayB; rw [hel]
  clear hel
  by_cases hit : 0 < i ↔ 0 < t
  · have hne : (!(i == 0) == (t == 0)) = false := by
      rcases (show (i = 0 ∧ t = 0) ∨ (i ≠ 0 ∧ t ≠ 0) by omega) with ⟨h1, h2⟩ | ⟨h1, h2⟩ <;> (rw [show (i == 0) = decide (i = 0) from rfl, show (t == 0) = decide (t = 0) from rfl]; simp [h1, h2])
    have hne2 : ((i == 0) != (t == 0)) = false := by
      rcases (show (i = 0 ∧ t = 0) ∨ (i ≠ 0 ∧ t ≠ 0) by omega) with ⟨h1, h2⟩ | ⟨h1, h2⟩ <;> (rw [show (i == 0) = decide (i = 0) from rfl, show (t == 0) = decide (t = 0) from rfl]; simp [h1, h2])
    by_cases h16 : n ≤ 16
    · have h16' : ¬ (16 < (n : Int)) := by omega
      go_wp2_with (first
        | (go_at_call 51; refine (behind_any ps A n c t _ hs' hnc hn).mono ?_; rintro e x1 ⟨rfl, hb1⟩; have k2 := k1.below hb1; have c0 := k2.cell 0; have c2 := k2.cell 2; simp at c0 c2; cases hr : standB (es ps) t)
        | (go_at_call 52; refine (room'_any i n _ hi0 hi1 (by omega)).mono ?_; rintro e x2 ⟨rfl, rfl⟩))
      all_goals
        go_ret
        refine ⟨?_, HB.out.trans (hb1.mono HB.out.size)⟩
        rw [HM.out, hr]
        simp [hit, h16]
    · have HF : Hid (mayB i t (es ps) = false) := by unfold Hid; rw [HM.out]; simp [h16]
      have h16' : 16 < (n : Int) := by omega
      go_wp2
      go_ret
      exact ⟨(congrArg (fun b => Ending.returned (.bool b)) HF.out).symm, HB.out⟩
  · have HF : Hid (mayB i t (es ps) = false) := by unfold Hid; rw [HM.out]; simp [hit]
    have hne : (!(i == 0) == (t == 0)) = true := by
      rcases (show (i = 0 ∧ t ≠ 0) ∨ (i ≠ 0 ∧ t = 0) by omega) with ⟨h1, h2⟩ | ⟨h1, h2⟩ <;> (rw [show (i == 0) = decide (i = 0) from rfl, show (t == 0) = decide (t = 0) from rfl]; simp [h1, h2])
    have hne2 : ((i == 0) != (t == 0)) = true := by
      rcases (show (i = 0 ∧ t ≠ 0) ∨ (i ≠ 0 ∧ t = 0) by omega) with ⟨h1, h2⟩ | ⟨h1, h2⟩ <;> (rw [show (i == 0) = decide (i = 0) from rfl, show (t == 0) = decide (t = 0) from rfl]; simp [h1, h2])
    go_wp2
    go_ret
    exact ⟨(congrArg (fun b => Ending.returned (.bool b)) HF.out).symm, HB.out⟩

/-- The k-th spot: its index, its term; the 0th is the base. -/
def spotI (i : Int) (k : Nat) : Int := IntKind.u64.wrap (i + IntKind.u64.wrap k)
def spotT (t : Int) (l : List Ent) : Nat → Int
  | 0 => t
  | k + 1 => (l[k]?.map (·.T)).getD 0
end Go.Proofs.Ytpckkajodpiiaaa

namespace Go.Proofs.Ytpckkajodpiiaaa
open Go.RowKit
set_option linter.unusedVariables false
set_option linter.unusedSimpArgs false

def atV (x : Int × Int) : Value := .agg #[.int .u64 x.1, .int .u64 x.2]
/-- The k-th spot: its index, its term; the 0th is the base. -/
def spotN (i t : Int) (l : List Ent) (k : Nat) : Int × Int := ((i + k) % 18446744073709551616, match k with | 0 => t | k + 1 => (l[k]?.map (·.T)).getD 0)

set_option maxHeartbeats 1600000 in
theorem spot_any {e2 : Option TypeId} (i t : Int) (A : Option Addr) (n c : Nat) (ps : List EP) (k : Nat) (w : World) (hs : SeesE w e2 A n ps) (hn : n ≤ 1000000000) (hk : k ≤ n) (hi0 : 0 ≤ i) (hi1 : i < 18446744073709551616) :
    Calls Try.prog 62 #[logV i t A n c, .int .i64 k] w fun e w' => e = .returned (atV (spotN i t (es ps) k)) ∧ Below w.heap.size w w' := by
  have HPL := Lib.hid hs.len
  have HB := Lib.hid (((Below.refl _ w).alloc (Nat.le_refl _) (.cells #[.int .u64 i, .int .u64 t, .slice A n c] 79)).alloc (by simp) (.cells #[.int .u64 0, .int .u64 0] 24))
  have hs' := (hs.alloc (.cells #[.int .u64 i, .int .u64 t, .slice A n c] 79)).alloc (.cells #[.int .u64 0, .int .u64 0] 24)
  unfold logV
  rcases Nat.eq_zero_or_pos k with h0 | h0
  · subst h0
    have HI : Hid (spotN i t (es ps) 0 = (i, t)) := by
      unfold Hid spotN
      simp
      omega
    go_enter Try.func62, Try.ntmps62
    go_wp2
    have HB1 : Below w.heap.size w ((w.alloc (.cells #[.int .u64 i, .int .u64 t, .slice A n c] 79)).alloc (.cells #[.int .u64 i, .int .u64 t] 24)) := ((Below.refl _ w).alloc (Nat.le_refl _) _).alloc (by simp) _
    have k4 := Blk.new (w.alloc (.cells #[.int .u64 i, .int .u64 t, .slice A n c] 79)) 24 #[.int .u64 i, .int .u64 t]
    simp only [World.size_alloc] at k4
    have r0 := k4.cell 0
    have r1 := k4.cell 1
    simp at r0 r1
    refine bodyPost_ret (v := atV (i, t)) (by simp [results, Try.results62, go_sem, r0, r1, atV]) rfl ?_
    exact ⟨by rw [HI.out], HB1⟩
  · obtain ⟨j, rfl⟩ : ∃ j, k = j + 1 := ⟨k - 1, by omega⟩
    obtain ⟨ad, p, rfl, hpk, hd, hc0, hc1, hc2⟩ := hs'.at_ (show j < n by omega)
    have HI : Hid (spotN i t (es ps) (j + 1) = (IntKind.u64.wrap (i + (j + 1)), p.e.T)) := by
      unfold Hid spotN
      simp [es, hpk, IntKind.wrap, IntKind.bits, IntKind.signed]
    clear hpk
    go_enter Try.func62, Try.ntmps62
    go_wp2
    go_region
    go_wp2
    have HB1 : Below w.heap.size w ((w.alloc (.cells #[.int .u64 i, .int .u64 t, .slice (some ad) n c] 79)).alloc (.cells #[.int .u64 (IntKind.u64.wrap (i + (j + 1))), .int .u64 p.e.T] 24)).drew := by
      have h := ((Below.refl _ w).alloc (Nat.le_refl _) (.cells #[.int .u64 i, .int .u64 t, .slice (some ad) n c] 79)).alloc (by simp) (.cells #[.int .u64 (IntKind.u64.wrap (i + (j + 1))), .int .u64 p.e.T] 24)
      exact ⟨h.os, h.tape, h.output, h.size, h.block⟩
    have k4 := (Blk.new (w.alloc (.cells #[.int .u64 i, .int .u64 t, .slice (some ad) n c] 79)) 24 #[.int .u64 (IntKind.u64.wrap (i + (j + 1))), .int .u64 p.e.T]).drew
    simp only [World.size_alloc] at k4
    have r0 := k4.cell 0
    have r1 := k4.cell 1
    simp at r0 r1
    refine bodyPost_ret (v := atV (IntKind.u64.wrap (i + (j + 1)), p.e.T)) (by simp [results, Try.results62, go_sem, r0, r1, atV]) rfl ?_
    exact ⟨by rw [HI.out], HB1⟩
end Go.Proofs.Ytpckkajodpiiaaa

namespace Go.Proofs.Ytpckkajodpiiaaa
open Go.RowKit
set_option linter.unusedVariables false
set_option linter.unusedSimpArgs false

set_option maxHeartbeats 1600000 in
theorem end_any {e2 : Option TypeId} (i t : Int) (A : Option Addr) (n c : Nat) (ps : List EP) (w : World) (hs : SeesE w e2 A n ps) (hn : n ≤ 1000000000) (hi0 : 0 ≤ i) (hi1 : i < 18446744073709551616) :
    Calls Try.prog 47 #[logV i t A n c] w fun e w' => e = .returned (atV (spotN i t (es ps) n)) ∧ Below w.heap.size w w' := by
  have HB := Lib.hid (((Below.refl _ w).alloc (Nat.le_refl _) (.cells #[.int .u64 i, .int .u64 t, .slice A n c] 79)).alloc (by simp) (.cells #[.int .u64 0, .int .u64 0] 24))
  have hs' := (hs.alloc (.cells #[.int .u64 i, .int .u64 t, .slice A n c] 79)).alloc (.cells #[.int .u64 0, .int .u64 0] 24)
  have k2 := Blk.new (w.alloc (.cells #[.int .u64 i, .int .u64 t, .slice A n c] 79)) 24 #[.int .u64 0, .int .u64 0]
  simp only [World.size_alloc] at k2
  have HSP := @spot_any e2 i t A n c ps n
  unfold logV at HSP ⊢
  go_enter Try.func47, Try.ntmps47
  go_wp2_with fail
  refine (HSP _ hs' hn (Nat.le_refl _) hi0 hi1).mono ?_
  rintro e x1 ⟨rfl, hb1⟩
  clear HSP
  replace HB := Lib.hid (HB.out.trans (hb1.mono HB.out.size))
  have k3 := k2.below hb1
  obtain ⟨sp, hsp⟩ : ∃ sp, spotN i t (es ps) n = sp := ⟨_, rfl⟩
  rw [hsp]
  have HE := Lib.hid hsp
  clear hsp
  unfold atV
  have f0 := k3.frozen 0
  have f1 := k3.frozen 1
  have c0 := k3.cell 0
  have c1 := k3.cell 1
  simp at c0 c1
  go_wp2
  have k4 := (k3.put 0 (.int .u64 sp.1)).put 1 (.int .u64 sp.2)
  have r0 := k4.cell 0
  have r1 := k4.cell 1
  simp at r0 r1
  refine bodyPost_ret (v := .agg #[.int .u64 sp.1, .int .u64 sp.2]) (by simp [results, Try.results47, go_sem, r0, r1]) rfl ?_
  exact ⟨by rw [HE.out]; rfl, (HB.out.setCell (by simp) _).setCell (by simp) _⟩

def lastT (t : Int) (l : List Ent) : Int := (spotN 0 t l l.length).2
/-- What Check says. -/
def lcheckE (i t : Int) (l : List Ent) (top : Int) : Int := if mayB i t l = true then (if top < (spotN i t l l.length).2 then 2 else 0) else 160

end Go.Proofs.Ytpckkajodpiiaaa

namespace Go.Proofs.Ytpckkajodpiiaaa
open Go.RowKit
set_option linter.unusedVariables false
set_option linter.unusedSimpArgs false

theorem ty_entry : ElemTy Try.prog 25 46 (.agg #[.int .u64 0, .int .i64 0, .slice none 0 0]) 3 40 := ⟨Try.underlying25, by kernel_rfl, rfl, by omega, by omega⟩
theorem ty_byte : ElemTy Try.prog 44 5 (.int .u8 0) 1 1 := ⟨Try.underlying44, by kernel_rfl, rfl, by omega, by omega⟩

set_option maxHeartbeats 800000 in
theorem eclone_any {e2 : Option TypeId} (A : Option Addr) (q c : Nat) (ps : List EP) (w : World) (hs : Sees w e2 3 A q (em ps)) (hq : q ≤ 1000000000) :
    Calls Try.prog 73 #[.slice A q c] w fun e w' => ∃ A' c', e = .returned (.slice A' q c') ∧ w'.ownsRow w.heap.size 46 3 (.slice A' q c') q (em ps) ∧ Below w.heap.size w w' := by
  rcases A with _ | ad
  · have hq0 := hs.2.1 rfl
    subst hq0
    have HP := Lib.hid hs.empty
    have hnil := fun (w : World) => Lib.run_eql_slice_nil (P := Try.prog) w 25 46 (none) 0 c 0 0 Try.underlying25
    go_enter Try.func73, Try.ntmps73
    go_wp2
    go_ret
    exact ⟨none, 0, rfl, by rw [HP.out]; exact World.ownsRow_nil _ _ _ _, Below.refl _ _⟩
  · have hnil := fun (w : World) => Lib.run_eql_slice_nil (P := Try.prog) w 25 46 (some ad) q c 0 0 Try.underlying25
    go_enter Try.func73, Try.ntmps73
    go_wp2_with (at_builtin; refine Door.enter ?_)
    refine Door.leave (wl_append ty_entry (base := w.heap.size) (World.ownsRow_lit w #[] 0 (Nat.le_refl _) (by simp [maxLen]) (by simp)) (hs.alloc _) (Nat.zero_add _) (List.nil_append _) (em_one _) (by omega) (by simp) rfl rfl rfl rfl ?_)
    intro A' c' w' h2 h3 h4 h5
    go_wp2
    go_ret
    exact ⟨A', c', rfl, h2, ((Below.refl _ w).alloc (Nat.le_refl _) _).trans h3⟩

set_option maxHeartbeats 800000 in
theorem bclone_any {e2 : Option TypeId} (A : Option Addr) (q c : Nat) (l : List Int) (w : World) (hs : Sees w e2 1 A q (ib .u8 l)) (hq : q ≤ 1000000000000) :
    Calls Try.prog 64 #[.slice A q c] w fun e w' => ∃ A' c', e = .returned (.slice A' q c') ∧ w'.ownsRow w.heap.size 5 1 (.slice A' q c') q (ib .u8 l) ∧ Below w.heap.size w w' := by
  rcases A with _ | ad
  · have hq0 := hs.2.1 rfl
    subst hq0
    have HP := Lib.hid hs.empty
    have hnil := fun (w : World) => Lib.run_eql_slice_nil (P := Try.prog) w 44 5 (none) 0 c 0 0 Try.underlying44
    go_enter Try.func64, Try.ntmps64
    go_wp2
    go_ret
    exact ⟨none, 0, rfl, by rw [HP.out]; exact World.ownsRow_nil _ _ _ _, Below.refl _ _⟩
  · have hnil := fun (w : World) => Lib.run_eql_slice_nil (P := Try.prog) w 44 5 (some ad) q c 0 0 Try.underlying44
    go_enter Try.func64, Try.ntmps64
    go_wp2_with (at_builtin; refine Door.enter ?_)
    refine Door.leave (wl_append ty_byte (base := w.heap.size) (World.ownsRow_lit w #[] 0 (Nat.le_refl _) (by simp [maxLen]) (by simp)) (hs.alloc _) (Nat.zero_add _) (List.nil_append _) (ib_one _ _) (by omega) (by simp) rfl rfl rfl rfl ?_)
    intro A' c' w' h2 h3 h4 h5
    go_wp2
    go_ret
    exact ⟨A', c', rfl, h2, ((Below.refl _ w).alloc (Nat.le_refl _) _).trans h3⟩
end Go.Proofs.Ytpckkajodpiiaaa

namespace Go.Proofs.Ytpckkajodpiiaaa
open Go.RowKit
set_option linter.unusedVariables false
set_option linter.unusedSimpArgs false

theorem Sees.any {w : World} {e : Option TypeId} {size n : Nat} {A : Option Addr} {xs : List Value} (h : Sees w e size A n xs) : Sees w none size A n xs :=
  ⟨h.1, h.2.1, fun ad ha => ⟨fun h0 => by obtain ⟨cur, t, fz, hc, _⟩ := (h.2.2 ad ha).1 h0; exact ⟨cur, t, fz, hc, fun _ h => by cases h⟩, (h.2.2 ad ha).2⟩⟩
/-- An entry whose bytes lie at or above a block. -/
def Fresh (base : Nat) (w : World) (p : EP) : Prop := DataE w p ∧ Sees w (some 5) 1 p.A p.n (ib .u8 p.e.D) ∧ ∀ ad, p.A = some ad → base ≤ ad.block ∧ (0 < p.n → Unf w ad.block)
theorem Unf.lt {w : World} {k : Nat} (h : Unf w k) : k < w.heap.size := by
  obtain ⟨cur, ty, h⟩ := h
  exact (Array.getElem?_eq_some_iff.1 h).1
theorem Fresh.below {base : Nat} {w w' : World} {p : EP} (h : Fresh base w p) (hb : Below w.heap.size w w') : Fresh base w' p := ⟨h.1.below hb, h.2.1.below hb, fun ad ha => ⟨(h.2.2 ad ha).1, fun h0 => by
  have hu := (h.2.2 ad ha).2 h0
  unfold Unf
  rw [hb.block _ hu.lt]
  exact hu⟩⟩
theorem Fresh.far {base : Nat} {w : World} {p : EP} (h : Fresh base w p) {q : Addr} (hq : ∀ ad, p.A = some ad → 0 < p.n → ad.block ≠ q.block) (u : Value) : Fresh base (w.setCell q u) p :=
  ⟨⟨h.1.sees.far hq u, h.1.nc, h.1.small, h.1.t0, h.1.t1⟩, h.2.1.far hq u, fun ad ha => ⟨(h.2.2 ad ha).1, fun h0 => by
    unfold Unf
    rw [Below.heap_setCell w q u _ (hq ad ha h0)]
    exact (h.2.2 ad ha).2 h0⟩⟩
theorem own_sees_ne {w : World} {base size g n c : Nat} {e t : TypeId} {xs ys : List Value} {A : Option Addr} {s m : Nat} (h : w.ownsRow base e size (.slice (some ⟨g, 0, none⟩) n c) n xs) (hs : Sees w (some t) s A m ys) (hne : t ≠ e) : ∀ ad, A = some ad → 0 < m → ad.block ≠ g := by
  rintro ad ha h0 rfl
  obtain ⟨cur, t', fz, hc, ht'⟩ := (hs.2.2 ad ha).1 h0
  rcases h.2 with ⟨hv, _⟩ | ⟨g', cap, cur', hv, _, hg, _⟩
  · cases hv
  · injection hv with hA
    injection hA with hA
    injection hA with hA
    subst hA
    rw [hc] at hg
    injection hg with hg
    injection hg with _ ht _
    exact hne ((ht' t rfl).symm.trans ht)
/-- A row of entries, it and their bytes at or above a block. -/
def OwnE (w : World) (base : Nat) (A : Option Addr) (n c : Nat) (ps : List EP) : Prop :=
  w.ownsRow base 46 3 (.slice A n c) n (em ps) ∧ ∀ p ∈ ps, Fresh base w p
theorem OwnE.sees {w : World} {base n c : Nat} {A : Option Addr} {ps : List EP} (h : OwnE w base A n c ps) : SeesE w (some 46) A n ps := ⟨Sees.of_own h.1, fun p hp => (h.2 p hp).1⟩
theorem OwnE.below {w w' : World} {base n c : Nat} {A : Option Addr} {ps : List EP} (h : OwnE w base A n c ps) (hb : Below w.heap.size w w') : OwnE w' base A n c ps := ⟨own_below h.1 hb, fun p hp => (h.2 p hp).below hb⟩
theorem em_set (qs ps : List EP) (p : EP) (A : Option Addr) (n c : Nat) : (em (qs ++ p :: ps)).set (qs.length * 3 + 2) (.slice A n c) = em (qs ++ ⟨p.e, A, n, c⟩ :: ps) := by
  rw [em_app, em_app, List.set_append, if_neg (by rw [em_len]; omega), em_len, show qs.length * 3 + 2 - qs.length * 3 = 2 by omega]
  rfl

set_option maxHeartbeats 1600000 in
theorem cloned_any {e2 : Option TypeId} (A : Option Addr) (n c : Nat) (ps : List EP) (w : World) (hs : SeesE w e2 A n ps) (hn : n ≤ 1000000000) (hdl : ∀ p ∈ ps, p.n ≤ 1000000000000) :
    Calls Try.prog 68 #[.slice A n c] w fun e w' => ∃ A' c' qs, e = .returned (.slice A' n c') ∧ es qs = es ps ∧ OwnE w' w.heap.size A' n c' qs ∧ Below w.heap.size w w' := by
  have HPL := Lib.hid hs.len
  go_enter Try.func68, Try.ntmps68
  go_wp2_with fail
  refine (eclone_any A n c ps _ hs.1 hn).mono ?_
  rintro e x1 ⟨A1, c1, rfl, ho1, hb1⟩
  have hnc := (own_cap ho1).1
  go_wp2
  go_loopw [3, 8] (fun u i wr => ∃ (k : Nat) (qs : List EP), k ≤ n ∧ i = .int .i64 k ∧ qs.length = k ∧ Hid (es qs = es (ps.take k)) ∧ wr.ownsRow w.heap.size 46 3 (.slice A1 n c1) n (em (qs ++ ps.drop k)) ∧ (∀ p ∈ qs, Fresh w.heap.size wr p) ∧ Below w.heap.size w wr) (fun _ i _ => n - (intOf i).toNat)
  case atStart => exact ⟨0, [], by omega, rfl, rfl, rfl, ho1, by simp, hb1⟩
  case round =>
    obtain ⟨k, qs, hk, rfl, hqk, HS, ho, hF, hB⟩ := hrel
    by_cases hlt : k < n
    · obtain ⟨g, cap, hv, hbg, hlg⟩ := ho.form (by omega)
      obtain ⟨rfl, rfl⟩ : A1 = some ⟨g, 0, none⟩ ∧ c1 = cap := by injection hv with h1 h2 h3; exact ⟨h1, h3⟩
      clear hv
      obtain ⟨p, hp⟩ : ∃ p, ps[k]? = some p := ⟨ps[k]'(by have := HPL.out; omega), List.getElem?_eq_getElem _⟩
      have hd : DataE wr p := (hs.2 p (List.mem_of_getElem? hp)).below hB
      have hpl := hdl p (List.mem_of_getElem? hp)
      have HD : Hid (ps.drop k = p :: ps.drop (k + 1)) := by
        unfold Hid
        rw [List.drop_eq_getElem_cons (List.getElem?_eq_some_iff.1 hp).1, (List.getElem?_eq_some_iff.1 hp).2]
      have HT : Hid (es (ps.take (k + 1)) = es (ps.take k) ++ [p.e]) := by
        unfold Hid es
        rw [take_snoc hp, List.map_append]
        rfl
      clear hp
      rw [HD.out] at ho
      have hc2 : wr.cell? ⟨g, k * 3 + 2, none⟩ = some (.slice p.A p.n p.c) := by
        have := ho.cellAt (k * 3 + 2) (by omega)
        rw [this, em_app, List.getElem?_append_right (by rw [em_len]; omega), em_len, hqk, show k * 3 + 2 - k * 3 = 2 by omega]
        rfl
      have f2 := ho.frozenAt (k * 3 + 2)
      go_wp2_with fail
      refine (bclone_any p.A p.n p.c p.e.D _ hd.sees hpl).mono ?_
      rintro e x2 ⟨A2, c2, rfl, ho2, hb2⟩
      have hsz := hB.size
      have HB2 := Lib.hid (hB.trans (hb2.mono hB.size))
      have o1 := own_below ho hb2
      have hF1 : ∀ p ∈ qs, Fresh w.heap.size x2 p := fun p hp => (hF p hp).below hb2
      have f3 : x2.frozen? ⟨g, k * 3 + 2, none⟩ = false := o1.frozenAt (k * 3 + 2)
      have hN : Fresh w.heap.size x2 ⟨p.e, A2, p.n, c2⟩ := ⟨⟨Sees.any (Sees.of_own ho2), (own_cap ho2).1, (own_cap ho2).2, hd.t0, hd.t1⟩, Sees.of_own ho2, fun ad ha => by
        have ha' : A2 = some ad := ha
        have := (ho2.lt ad.block (by rw [ha']; rfl)).1
        refine ⟨by omega, fun h0 => ?_⟩
        subst ha'
        rcases ho2.2 with ⟨hv, _⟩ | ⟨g', cap', cur, hv, _, hg', _⟩
        · cases hv
        · injection hv with hA
          injection hA with hA
          subst hA
          exact ⟨_, _, hg'⟩⟩
      have c3 : x2.cell? ⟨g, k * 3 + 2, none⟩ = some (.slice p.A p.n p.c) := (hb2.cell (World.block_lt_of_cell? wr _ hc2)).trans hc2
      clear hc2 f2 hF hb2 ho2
      go_wp2
      go_roundw
      case rel =>
        refine ⟨k + 1, qs ++ [⟨p.e, A2, p.n, c2⟩], by omega, by go_num, by simp [hqk], ?_, ?_, ?_, HB2.out.setCell (by simpa using hbg) _⟩
        · unfold Hid
          rw [HT.out, ← HS.out]
          unfold es
          rw [List.map_append]
          rfl
        · have o2 := (o1.stored (k * 3 + 2) (.slice A2 p.n c2)).1
          rw [← hqk, em_set] at o2
          rw [List.append_assoc, ← hqk]
          exact o2
        · intro r hr
          rcases List.mem_append.1 hr with hr | hr
          · exact (hF1 r hr).far (own_sees_ne o1 (hF1 r hr).2.1 (by decide)) _
          · obtain rfl := List.mem_singleton.1 hr
            exact hN.far (own_sees_ne o1 hN.2.1 (by decide)) _
      case measure => simp [intOf]; omega
    · obtain rfl : k = n := by omega
      have hd : ps.drop k = [] := List.drop_eq_nil_of_le (by have := HPL.out; omega)
      rw [hd, List.append_nil] at ho
      have HS2 : Hid (es qs = es ps) := by unfold Hid; rw [HS.out, List.take_of_length_le (by have := HPL.out; omega)]
      clear hd
      go_wp2
      go_ret
      exact ⟨A1, c1, qs, rfl, HS2.out, ⟨ho, hF⟩, hB⟩
end Go.Proofs.Ytpckkajodpiiaaa

namespace Go.Proofs.Ytpckkajodpiiaaa
open Go.RowKit
set_option linter.unusedVariables false
set_option linter.unusedSimpArgs false

theorem OwnE.mono {w : World} {base base' n c : Nat} {A : Option Addr} {ps : List EP} (h : OwnE w base A n c ps) (hb : base' ≤ base) : OwnE w base' A n c ps := ⟨own_mono h.1 hb, fun p hp => ⟨(h.2 p hp).1, (h.2 p hp).2.1, fun ad ha => ⟨Nat.le_trans hb ((h.2 p hp).2.2 ad ha).1, ((h.2 p hp).2.2 ad ha).2⟩⟩⟩
theorem OwnE.far {w : World} {base n c g : Nat} {A : Option Addr} {ps : List EP} {t : TypeId} {cs : Array Value} (h : OwnE w base A n c ps) (hk : Blk w g t cs) (h1 : 46 ≠ t) (h2 : 5 ≠ t) (i : Nat) (u : Value) : OwnE (w.setCell ⟨g, i, none⟩ u) base A n c ps :=
  ⟨own_grown1 h.1 (grown_set _ g i u) (own_apart h.1 hk h1), fun p hp => (h.2 p hp).far (hk.apart (h.2 p hp).2.1 h2) u⟩
/-- What the region of part knows of each of its slots. -/
def PhiPart (i t : Int) (A : Option Addr) (n c : Nat) (ps : List EP) (f u g base : Nat) (sl : Value) : Nat → Value → World → Prop
  | 0, v, _ => v = logV i t A n c
  | 1, v, _ => v = .int .i64 f
  | 2, v, _ => v = atV (spotN i t (es ps) f)
  | 3, v, _ => v = .pointer (some ⟨g, 0, none⟩)
  | 4, v, _ => v = .pointer (some ⟨g, 2, none⟩)
  | 5, v, _ => v = .slice A n c
  | 6, v, _ => v = .int .i64 f
  | 7, v, _ => v = .int .i64 u
  | 8, v, _ => v = .int .i64 u
  | 9, v, _ => v = sl
  | 10, v, w => ∃ A' c' qs, v = .slice A' (u - f) c' ∧ es qs = es ((ps.take u).drop f) ∧ OwnE w base A' (u - f) c' qs
  | 11, v, w => ∃ A' c' qs, v = logV (spotN i t (es ps) f).1 (spotN i t (es ps) f).2 A' (u - f) c' ∧ es qs = es ((ps.take u).drop f) ∧ OwnE w base A' (u - f) c' qs
  | 12, v, w => ∃ A' c' qs, v = logV (spotN i t (es ps) f).1 (spotN i t (es ps) f).2 A' (u - f) c' ∧ es qs = es ((ps.take u).drop f) ∧ OwnE w base A' (u - f) c' qs
  | _, _, _ => True
theorem phiPart_stab (i t : Int) (A : Option Addr) (n c : Nat) (ps : List EP) (f u g base : Nat) (sl : Value) (j : Nat) (v : Value) (w1 w2 : World)
    (h : PhiPart i t A n c ps f u g base sl j v w1) (hb : Below w1.heap.size w1 w2) : PhiPart i t A n c ps f u g base sl j v w2 := by
  by_cases h1 : j = 10 ∨ j = 11 ∨ j = 12
  · rcases h1 with rfl | rfl | rfl <;>
    · obtain ⟨A', c', qs, e, h2, h3⟩ := h
      exact ⟨A', c', qs, e, h2, h3.below hb⟩
  · unfold PhiPart at h ⊢
    split <;> simp_all

set_option maxRecDepth 20000 in
set_option maxHeartbeats 4000000 in
theorem part_any {e2 : Option TypeId} (i t : Int) (A : Option Addr) (n c : Nat) (ps : List EP) (f u : Nat) (w : World) (hs : SeesE w e2 A n ps) (hnc : n ≤ c) (hn : n ≤ 1000000000) (hft : f ≤ u) (hun : u ≤ n) (hi0 : 0 ≤ i) (hi1 : i < 18446744073709551616) (hdl : ∀ p ∈ ps, p.n ≤ 1000000000000) :
    Calls Try.prog 49 #[logV i t A n c, .int .i64 f, .int .i64 u] w fun e w' => ∃ A' c' qs, e = .returned (logV (spotN i t (es ps) f).1 (spotN i t (es ps) f).2 A' (u - f) c') ∧ es qs = es ((ps.take u).drop f) ∧ OwnE w' w.heap.size A' (u - f) c' qs ∧ Below w.heap.size w w' := by
  have HB := Lib.hid (((Below.refl _ w).alloc (Nat.le_refl _) (.cells #[.int .u64 i, .int .u64 t, .slice A n c] 79)).alloc (by simp) (.cells #[.int .u64 0, .int .u64 0, .slice none 0 0] 79))
  have hs' := (hs.alloc (.cells #[.int .u64 i, .int .u64 t, .slice A n c] 79)).alloc (.cells #[.int .u64 0, .int .u64 0, .slice none 0 0] 79)
  have k3 := (Blk.new w 79 #[.int .u64 i, .int .u64 t, .slice A n c]).alloc (.cells #[.int .u64 0, .int .u64 0, .slice none 0 0] 79)
  have k6 := Blk.new (w.alloc (.cells #[.int .u64 i, .int .u64 t, .slice A n c] 79)) 79 #[.int .u64 0, .int .u64 0, .slice none 0 0]
  simp only [World.size_alloc] at k6
  have HSP := fun w hs' => @spot_any e2 i t A n c ps f w hs' hn (Nat.le_trans hft hun) hi0 hi1
  unfold logV at HSP
  unfold logV
  have HSL : Hid (SeesE w e2 (if u = f then A else A.map (·.add (f * 3))) (u - f) ((ps.take u).drop f)) := (hs.take hun).drop hft (Nat.le_refl _)
  go_enter Try.func49, Try.ntmps49
  go_upto_region 1 with fail
  refine wp_region_par_tail 13 [7, 8, 9, 10, 11, 12, 13, 14, 15, 16, 17, 18, 19] (fun _ => false) (PhiPart i t A n c ps f u w.heap.size w.heap.size (.slice (if u = f then A else A.map (·.add (f * 3))) (u - f) (u - f))) (by kernel_rfl) (by kernel_rfl) (phiPart_stab _ _ _ _ _ _ _ _ _ _ _) ?steps ?fin
  case steps =>
    simp only [List.take_succ_cons, List.take_zero, StepsPar]
    refine ⟨?_, ?_, ?_, ?_, ?_, ?_, ?_, ?_, ?_, ?_, ?_, ?_, ?_, trivial⟩
    all_goals
      intro x w1x hb hd K hK
      simp only [frameOf, slots, Act.put, List.setIfInBounds_toArray, List.set_cons_zero, List.set_cons_succ] at hK ⊢
    · have k := k3.below hb
      have c0 := k.cell 0
      have c1 := k.cell 1
      have c2 := k.cell 2
      simp at c0 c1 c2
      clear k
      go_simp
      exact hK _ _ (rfl) (Below.refl _ _) (fun h => absurd h (by decide))
    · go_simp
      exact hK _ _ (rfl) (Below.refl _ _) (fun h => absurd h (by decide))
    · have e0 : x 0 = .agg #[.int .u64 i, .int .u64 t, .slice A n c] := hd ⟨0, .data⟩ (by simp) rfl
      have e1 : x 1 = .int .i64 f := hd ⟨1, .data⟩ (by simp) rfl
      simp only [e0, e1] at hK ⊢
      go_simp
      refine (HSP w1x (hs'.below hb)).mono ?_
      rintro e w2x ⟨rfl, hb2⟩
      exact hK _ _ rfl hb2 (fun h => absurd h (by decide))
    · go_simp
      exact hK _ _ (rfl) (Below.refl _ _) (fun h => absurd h (by decide))
    · have e3 : x 3 = .pointer (some ⟨w.heap.size, 0, none⟩) := hd ⟨3, .data⟩ (by simp) rfl
      simp only [e3] at hK ⊢
      go_simp
      exact hK _ _ (rfl) (Below.refl _ _) (fun h => absurd h (by decide))
    · have e4 : x 4 = .pointer (some ⟨w.heap.size, 2, none⟩) := hd ⟨4, .data⟩ (by simp) rfl
      simp only [e4] at hK ⊢
      have k := k3.below hb
      have c0 := k.cell 0
      have c1 := k.cell 1
      have c2 := k.cell 2
      simp at c0 c1 c2
      clear k
      go_simp
      exact hK _ _ (rfl) (Below.refl _ _) (fun h => absurd h (by decide))
    · go_simp
      exact hK _ _ (rfl) (Below.refl _ _) (fun h => absurd h (by decide))
    · go_simp
      exact hK _ _ (rfl) (Below.refl _ _) (fun h => absurd h (by decide))
    · go_simp
      exact hK _ _ (rfl) (Below.refl _ _) (fun h => absurd h (by decide))
    · have e5 : x 5 = .slice A n c := hd ⟨5, .data⟩ (by simp) rfl
      have e6 : x 6 = .int .i64 f := hd ⟨6, .data⟩ (by simp) rfl
      have e7 : x 7 = .int .i64 u := hd ⟨7, .data⟩ (by simp) rfl
      have e8 : x 8 = .int .i64 u := hd ⟨8, .data⟩ (by simp) rfl
      simp only [e5, e6, e7, e8] at hK ⊢
      have huc : u ≤ c := by omega
      go_simp
      exact hK _ _ rfl (Below.refl _ _) (fun h => absurd h (by decide))
    · have e9 : x 9 = .slice (if u = f then A else A.map (·.add (f * 3))) (u - f) (u - f) := hd ⟨9, .data⟩ (by simp) rfl
      simp only [e9] at hK ⊢
      go_simp
      refine (cloned_any _ (u - f) (u - f) ((ps.take u).drop f) w1x (HSL.out.below (HB.out.trans (hb.mono HB.out.size))) (by omega) (fun p hp => hdl p (List.mem_of_mem_take (List.mem_of_mem_drop hp)))).mono ?_
      rintro e w2x ⟨A2, c2, qs, rfl, h1, h2, hb2⟩
      exact hK _ _ ⟨A2, c2, qs, rfl, h1, h2.mono (by have := hb.size; simp at this; omega)⟩ hb2 (fun h => absurd h (by decide))
    · have e2 : x 2 = atV (spotN i t (es ps) f) := hd ⟨2, .data⟩ (by simp) rfl
      have d10 := hd ⟨10, .data⟩ (by simp) rfl
      simp only [e2] at hK ⊢
      obtain ⟨A2, c2, qs, e10, h1, h2⟩ := d10
      simp only [e10] at hK ⊢
      unfold atV at hK ⊢
      go_simp
      exact hK _ _ ⟨A2, c2, qs, rfl, h1, h2⟩ (Below.refl _ _) (fun h => absurd h (by decide))
    · have d11 := hd ⟨11, .data⟩ (by simp) rfl
      obtain ⟨A2, c2, qs, e11, h1, h2⟩ := d11
      simp only [e11, logV] at hK ⊢
      go_simp
      exact hK _ _ ⟨A2, c2, qs, rfl, h1, h2⟩ (Below.refl _ _) (fun h => absurd h (by decide))
  case fin =>
    intro x wg hb hx _
    obtain ⟨A2, c2, qs, e12, h1, h2⟩ := hx 12 (by omega)
    simp only [frameOf, slots, Act.put, List.setIfInBounds_toArray, List.set_cons_zero, List.set_cons_succ, List.drop_succ_cons, List.drop_zero, e12, logV]
    clear hx e12
    have k := k6.below hb
    have c0 := k.cell 0
    have c1 := k.cell 1
    have c2x := k.cell 2
    have f0 := k.frozen 0
    have f1 := k.frozen 1
    have f2 := k.frozen 2
    simp at c0 c1 c2x
    replace HB := Lib.hid (HB.out.trans (hb.mono HB.out.size))
    obtain ⟨sp, hsp⟩ : ∃ sp, spotN i t (es ps) f = sp := ⟨_, rfl⟩
    have HE := Lib.hid hsp
    rw [hsp]
    clear hsp hb HSP HSL
    go_wp2
    have ka := k.put 0 (.int .u64 sp.1)
    have kb := ka.put 1 (.int .u64 sp.2)
    have kc := kb.put 2 (.slice A2 (u - f) c2)
    have r0 := kc.cell 0
    have r1 := kc.cell 1
    have r2 := kc.cell 2
    simp at r0 r1 r2
    refine bodyPost_ret (v := .agg #[.int .u64 sp.1, .int .u64 sp.2, .slice A2 (u - f) c2]) (by simp [results, Try.results49, go_sem, r0, r1, r2]) rfl ?_
    exact ⟨A2, c2, qs, by rw [HE.out], h1, ((h2.far k (by decide) (by decide) _ _).far ka (by decide) (by decide) _ _).far kb (by decide) (by decide) _ _, ((HB.out.setCell (by simp) _).setCell (by simp) _).setCell (by simp) _⟩
end Go.Proofs.Ytpckkajodpiiaaa

namespace Go.Proofs.Ytpckkajodpiiaaa
open Go.RowKit Go.Shelf
set_option linter.unusedVariables false
set_option linter.unusedSimpArgs false

attribute [local go_sem] Oper.semAt_some

set_option maxRecDepth 100000 in
set_option maxHeartbeats 1600000 in
theorem spots1_in {e2 : Option TypeId} (n : Nat) (hn : 1 ≤ n) (l Bn : Nat) (i t : Int) (A : Option Addr) (N c : Nat) (ps : List EP) (hN : N ≤ 1000000000) (hi0 : 0 ≤ i) (hi1 : i < 18446744073709551616)
    (J Jx : Nat → World → Prop) (Kp : World → World → Prop)
    (hK : ∀ A' B', Kp A' B' → (Blk A' Bn 79 #[.int .u64 i, .int .u64 t, .slice A N c] ∧ SeesE A' e2 A N ps) → (Blk B' Bn 79 #[.int .u64 i, .int .u64 t, .slice A N c] ∧ SeesE B' e2 A N ps))
    (hJB : ∀ m A' B', J m A' → Below A'.heap.size A' B' → J m B')
    (hY : ∀ m W, J m W → m ≤ N → YieldAt Fence.wide (n - 1) Try.prog l #[.int .i64 ((N : Int) - m), atV (spotN i t (es ps) (N - m))] W fun e W' =>
      (e = .returned (.bool true) ∧ J (m + 1) W' ∧ Kp W W') ∨ (e = .returned (.bool false) ∧ Jx m W'))
    (W : World) (hI : Blk W Bn 79 #[.int .u64 i, .int .u64 t, .slice A N c] ∧ SeesE W e2 A N ps) (h0 : J 0 W) :
    CallsIn Fence.wide n Try.prog 71 #[.func (.yield l) #[] #[], .pointer (some ⟨Bn, 0, none⟩)] W fun e W' => (∃ v, e = .returned v) ∧ (J (N + 1) W' ∨ ∃ m, m ≤ N ∧ Jx m W') := by
  have c2 := hI.1.cell 2
  simp at c2
  refine callsIn_of_wp Try.func71 rfl trivial ?_ rfl
  simp only [Try.ntmps71, List.size_toArray, List.length_cons, List.length_nil, Nat.reduceAdd, Nat.reduceSub, Array.replicate_succ, Array.replicate_zero, List.push_toArray, List.append_toArray, List.nil_append, List.cons_append]
  gi_wp2
  gi_loopw [3] (fun p wr => ∃ m : Nat, m ≤ N + 1 ∧ p = .int .i64 ((N : Int) - m) ∧ (Blk wr Bn 79 #[.int .u64 i, .int .u64 t, .slice A N c] ∧ SeesE wr e2 A N ps) ∧ J m wr)
    (fun p _ => ((intOf p) + 1).toNat)
  case atStart => exact ⟨0, by omega, by go_num, hI, h0⟩
  case round =>
    obtain ⟨m, hm, rfl, hI1, hJs⟩ := hrel
    by_cases h6 : m ≤ N
    · have k := hI1.1
      have c0 := k.cell 0
      have c1 := k.cell 1
      have c2 := k.cell 2
      simp at c0 c1 c2
      have hF : Fence.wide.fn 62 := trivial
      have HK : CallsIn Fence.wide (n - 1) Try.prog 62 #[.agg #[.int .u64 i, .int .u64 t, .slice A N c], .int .i64 ((N : Int) - m)] wr fun e w' => e = .returned (atV (spotN i t (es ps) (N - m))) ∧ Below wr.heap.size wr w' :=
        callsIn_wide.2 (by have := spot_any i t A N c ps (N - m) wr hI1.2 hN (by omega) hi0 hi1; rw [show ((N - m : Nat) : Int) = (N : Int) - m by omega] at this; exact this)
      gi_wp2_with fail
      refine HK.mono ?_
      rintro e x1 ⟨rfl, hb1⟩
      have hI2 : Blk x1 Bn 79 #[.int .u64 i, .int .u64 t, .slice A N c] ∧ SeesE x1 e2 A N ps := ⟨hI1.1.below hb1, hI1.2.below hb1⟩
      have hJ2 := hJB m _ _ hJs hb1
      clear c0 c1 c2 k HK hb1
      obtain ⟨fn, tmps, assign, body, hy, hR⟩ := hY m x1 hJ2 h6
      gi_wp2_with fail
      refine hR.mono ?_
      rintro e W' (⟨rfl, hJ', hk'⟩ | ⟨rfl, hJx'⟩)
      · have hI3 := hK _ _ hk' hI2
        gi_wp2
        go_roundw
        case rel => exact ⟨m + 1, by omega, by go_num, hI3, hJ'⟩
        case measure => simp [intOf]; omega
      · gi_wp2
        refine bodyPost_ret (results_none rfl _ _ _) rfl ?_
        exact ⟨⟨_, rfl⟩, .inr ⟨m, h6, hJx'⟩⟩
    · obtain rfl : m = N + 1 := by omega
      gi_wp2
      go_end0
      exact ⟨⟨_, rfl⟩, .inl hJs⟩
end Go.Proofs.Ytpckkajodpiiaaa

namespace Go.Proofs.Ytpckkajodpiiaaa
open Go.RowKit Go.Shelf
set_option linter.unusedVariables false
set_option linter.unusedSimpArgs false

theorem keepsFrom_below {B : Nat} {W W' : World} (h : Below W.heap.size W W') : KeepsFrom B W W' := ⟨h.size, fun k o _ hk _ => (h.block k (Array.getElem?_eq_some_iff.1 hk).1).trans hk⟩
/-- The captured log is kept. -/
def KeepL (e2 : Option TypeId) (Bn : Nat) (i t : Int) (A : Option Addr) (N c : Nat) (ps : List EP) (W W' : World) : Prop :=
  (Blk W Bn 79 #[.int .u64 i, .int .u64 t, .slice A N c] ∧ SeesE W e2 A N ps) → (Blk W' Bn 79 #[.int .u64 i, .int .u64 t, .slice A N c] ∧ SeesE W' e2 A N ps)
def spotEnc (i t : Int) (l : List Ent) (N m : Nat) : Array Value := #[.int .i64 ((N : Int) - m), atV (spotN i t l (N - m))]

theorem spots_stops {e2 : Option TypeId} (n : Nat) (hn : 1 ≤ n) (Bn : Nat) (i t : Int) (A : Option Addr) (N c : Nat) (ps : List EP) (hN : N ≤ 1000000000) (hi0 : 0 ≤ i) (hi1 : i < 18446744073709551616) (w : World)
    (hI : Blk w Bn 79 #[.int .u64 i, .int .u64 t, .slice A N c] ∧ SeesE w e2 A N ps) :
    SeqStopsK Fence.wide n Try.prog 71 #[.pointer (some ⟨Bn, 0, none⟩)] (spotEnc i t (es ps) N) (KeepL e2 Bn i t A N c ps) (fun ys => ys = List.range (N + 1)) (fun pre => ∃ m, m ≤ N ∧ pre = List.range (m + 1)) (N + 1) w := by
  intro l J Jx W hW hJ hJx hY h0
  have := spots1_in n hn l Bn i t A N c ps hN hi0 hi1 (fun m W => J (List.range m) W) (fun m W => Jx (List.range (m + 1)) W) (KeepL e2 Bn i t A N c ps) (fun _ _ h hh => h hh)
    (fun m A' B' h hb => hJ _ _ _ none h (grown_below hb none) (fun r e => by cases e))
    (fun m W1 h hm => by
      have := hY (List.range m) m W1 h (by simp; omega)
      rwa [← List.range_succ] at this) W ⟨hI.1.below hW, hI.2.below hW⟩ h0
  refine this.mono ?_
  rintro e W' ⟨h1, h2 | ⟨m, hm, h2⟩⟩
  · exact ⟨h1, .inl ⟨_, rfl, h2⟩⟩
  · exact ⟨h1, .inr ⟨_, ⟨m, hm, rfl⟩, h2⟩⟩
end Go.Proofs.Ytpckkajodpiiaaa

namespace Go.Proofs.Ytpckkajodpiiaaa
open Go.RowKit Go.Shelf
set_option linter.unusedVariables false
set_option linter.unusedSimpArgs false

theorem spots_any (i t : Int) (A : Option Addr) (N c : Nat) (w : World) :
    Calls Try.prog 63 #[logV i t A N c] w fun e w' => e = .returned (.func (.func 71) #[] #[.pointer (some ⟨w.heap.size, 0, none⟩)]) ∧ w' = w.alloc (.cells #[.int .u64 i, .int .u64 t, .slice A N c] 79) := by
  unfold logV
  go_enter Try.func63, Try.ntmps63
  go_wp2
  go_ret
  exact ⟨rfl, rfl⟩

section
variable {W : World} {l : Nat} {o o' : Obj}
theorem Sees.putObj {e : Option TypeId} {s n : Nat} {A : Option Addr} {xs : List Value} (h : Sees W e s A n xs) (ho : W.heap[l]? = some o) (hc : o.isCells = false) : Sees (W.putObj l o') e s A n xs :=
  h.keep fun k hk hh => by
    obtain ⟨ad, ha, rfl, h0⟩ := hh
    obtain ⟨cur, t, fz, hc', _⟩ := (h.2.2 ad ha).1 h0
    refine (grownBy_putObj' W l o').block _ hk (fun e => ?_)
    injection e with e
    subst e
    rw [ho] at hc'
    cases hc'
    simp [Obj.isCells] at hc
theorem SeesE.putObj {e : Option TypeId} {n : Nat} {A : Option Addr} {ps : List EP} (h : SeesE W e A n ps) (ho : W.heap[l]? = some o) (hc : o.isCells = false) : SeesE (W.putObj l o') e A n ps :=
  ⟨h.1.putObj ho hc, fun p hp => ⟨(h.2 p hp).sees.putObj ho hc, (h.2 p hp).nc, (h.2 p hp).small, (h.2 p hp).t0, (h.2 p hp).t1⟩⟩
theorem Blk.putObj {g : Nat} {t : TypeId} {cs : Array Value} (h : Blk W g t cs) (ho : W.heap[l]? = some o) (hc : o.isCells = false) : Blk (W.putObj l o') g t cs := by
  refine ((grownBy_putObj' W l o').block g h.lt (fun e => ?_)).trans h
  injection e with e
  subst e
  unfold Blk at h
  rw [ho] at h
  cases h
  simp [Obj.isCells] at hc
end
theorem keepL_t {e2 : Option TypeId} {Bn : Nat} {i t : Int} {A : Option Addr} {N c : Nat} {ps : List EP} {X Y Z : World} (h : KeepL e2 Bn i t A N c ps X Y) (k : KeepL e2 Bn i t A N c ps Y Z) : KeepL e2 Bn i t A N c ps X Z := fun x => k (h x)
theorem keepL_b {e2 : Option TypeId} {Bn : Nat} {i t : Int} {A : Option Addr} {N c : Nat} {ps : List EP} {m : Nat} : ∀ (W : World) (l : Nat) (o o' : Obj), m ≤ l → W.heap[l]? = some o → o.isCells = false → o.isWalk = false → KeepL e2 Bn i t A N c ps W (W.putObj l o') :=
  fun W l o o' _ ho hc _ hx => ⟨hx.1.putObj ho hc, hx.2.putObj ho hc⟩
end Go.Proofs.Ytpckkajodpiiaaa

namespace Go.Proofs.Ytpckkajodpiiaaa
open Go.RowKit Go.Shelf
set_option linter.unusedVariables false
set_option linter.unusedSimpArgs false

attribute [local go_sem] Oper.semAt_some

/-- Is the m-th spot from the end on that of an index? -/
def hitB (i x : Int) (N m : Nat) : Bool := decide ((i + ((N - m : Nat) : Int)) % 18446744073709551616 = x)
def ofN (i x : Int) (N : Nat) : Int := match (List.range (N + 1)).find? (hitB i x N) with | some m => (N : Int) - m | none => -1

theorem seesE_own {β : Type} (e : Option TypeId) (A : Option Addr) (n : Nat) (ps : List EP) : Own (fun (_ : β) W => SeesE W e A n ps) := fun s X Y row hs hg hrow => by
  have key : ∀ {e' : Option TypeId} {s' n' : Nat} {A' : Option Addr} {xs : List Value}, Sees X e' s' A' n' xs → Sees Y e' s' A' n' xs := fun h => h.grown hg fun ad ha h0 e => by
    obtain ⟨o, ho, hw⟩ := hrow _ e
    obtain ⟨cur, t, fz, hc, _⟩ := (h.2.2 ad ha).1 h0
    rw [hc] at ho
    cases ho
    cases hw
  exact ⟨key hs.1, fun p hp => ⟨key (hs.2 p hp).sees, (hs.2 p hp).nc, (hs.2 p hp).small, (hs.2 p hp).t0, (hs.2 p hp).t1⟩⟩

theorem blkL_own {β : Type} (g : Nat) (t : TypeId) (cs : β → Array Value) : Own (fun (s : β) W => Blk W g t (cs s)) := fun s X Y row hs hg hrow => by
  refine Blk.grown hs hg (fun e => ?_)
  obtain ⟨o, ho, hw⟩ := hrow _ e
  unfold Blk at hs
  rw [hs] at ho
  cases ho
  cases hw

set_option maxRecDepth 100000 in
set_option maxHeartbeats 4000000 in
theorem of_any {e2 : Option TypeId} (i t : Int) (A : Option Addr) (N c : Nat) (ps : List EP) (x : Int) (w : World) (hs : SeesE w e2 A N ps) (hN : N ≤ 1000000000) (hi0 : 0 ≤ i) (hi1 : i < 18446744073709551616) :
    Calls Try.prog 50 #[logV i t A N c, .int .u64 x] w fun e w' => e = .returned (.int .i64 (ofN i x N)) ∧ Below w.heap.size w w' := by
  have HSP := fun w => spots_any i t A N c w
  unfold logV at HSP ⊢
  refine (callsIn_wide (n := 8)).1 ?_
  refine callsIn_of_wp_marks Try.func50 rfl trivial ?_ rfl
  simp only [Try.ntmps50, List.size_toArray, List.length_cons, List.length_nil, Nat.reduceAdd, Nat.reduceSub, Array.replicate_succ, Array.replicate_zero, List.push_toArray, List.append_toArray, List.nil_append, List.cons_append]
  refine wpIn_wide.2 ?_
  go_wp2_with fail
  refine (HSP _).mono ?_
  rintro e W0 ⟨rfl, hW0⟩
  clear HSP
  have hs0 := (((hs.alloc (.cells #[.int .u64 i, .int .u64 t, .slice A N c] 79)).alloc (.cells #[.int .u64 x] 22)).alloc (.cells #[.int .i64 0] 3)).alloc (.cells #[.int .u64 i, .int .u64 t, .slice A N c] 79)
  have HB0 := ((((Below.refl _ w).alloc (Nat.le_refl _) (.cells #[.int .u64 i, .int .u64 t, .slice A N c] 79)).alloc (by simp) (.cells #[.int .u64 x] 22)).alloc (by simp; omega) (.cells #[.int .i64 0] 3)).alloc (by simp; omega) (.cells #[.int .u64 i, .int .u64 t, .slice A N c] 79)
  have bX := ((Blk.new (w.alloc (.cells #[.int .u64 i, .int .u64 t, .slice A N c] 79)) 22 #[.int .u64 x]).alloc (.cells #[.int .i64 0] 3)).alloc (.cells #[.int .u64 i, .int .u64 t, .slice A N c] 79)
  have bR := (Blk.new ((w.alloc (.cells #[.int .u64 i, .int .u64 t, .slice A N c] 79)).alloc (.cells #[.int .u64 x] 22)) 3 #[.int .i64 0]).alloc (.cells #[.int .u64 i, .int .u64 t, .slice A N c] 79)
  have bL := Blk.new (((w.alloc (.cells #[.int .u64 i, .int .u64 t, .slice A N c] 79)).alloc (.cells #[.int .u64 x] 22)).alloc (.cells #[.int .i64 0] 3)) 79 #[.int .u64 i, .int .u64 t, .slice A N c]
  simp only [World.size_alloc] at bX bR bL
  rw [← hW0] at hs0 HB0 bX bR bL
  simp only [World.size_alloc]
  clear hW0
  have hgL := bL.lt
  go_wp2_with fail
  refine (wpIn_wide (n := 8)).1 ?_
  refine wpIn_rangeFunc_ownH rfl (by omega) (gf := 71) (lb := #[.pointer (some ⟨w.heap.size + 1 + 1 + 1, 0, none⟩)]) rfl trivial (enters_of Try.func71 (by kernel_rfl) rfl)
    (spots_stops 7 (by omega) (w.heap.size + 1 + 1 + 1) i t A N c ps hN hi0 hi1 W0 ⟨bL, hs0⟩) keepL_t keepL_b (Below.refl _ _) (fun _ => rfl)
    (fun pre W => ((Blk W (w.heap.size + 1 + 1 + 1) 79 #[.int .u64 i, .int .u64 t, .slice A N c] ∧ SeesE W e2 A N ps) ∧ (Blk W (w.heap.size + 1) 22 #[.int .u64 x] ∧ Blk W (w.heap.size + 1 + 1) 3 #[.int .i64 0])) ∧ ((∀ m ∈ pre, hitB i x N m = false) ∧ Below w.heap.size w W))
    (fun c pre W => (c = Code.ret ∧ ∃ pre' m, pre = pre' ++ [m] ∧ (∀ m ∈ pre', hitB i x N m = false) ∧ hitB i x N m = true ∧ Blk W (w.heap.size + 1 + 1) 3 #[.int .i64 ((N : Int) - m)]) ∧ Below w.heap.size w W)
    (OwnFrom.and (OwnFrom.and (OwnFrom.and (Own.from (blkL_own _ _ (fun _ => _)) _) (Own.from (seesE_own _ _ _ _) _)) (OwnFrom.and (Own.from (blkL_own _ _ (fun _ => _)) _) (Own.from (blkL_own _ _ (fun _ => _)) _))) (OwnFrom.and (ownFrom_pure _ _) (ownFrom_below (by omega) (by omega))))
    ?own2 ⟨⟨⟨bL, hs0⟩, bX, bR⟩, by simp, HB0⟩
    (fun m a' W => ∃ Bx, Blk W Bx 24 #[.int .u64 (spotN i t (es ps) (N - m)).1, .int .u64 (spotN i t (es ps) (N - m)).2] ∧ a' = { tmps := #[.agg #[.int .u64 i, .int .u64 t, .slice A N c], .int .u64 x, .pointer (some ⟨w.heap.size, 0, none⟩), .pointer (some ⟨w.heap.size + 1, 0, none⟩), .pointer (some ⟨w.heap.size + 1 + 1, 0, none⟩), .int .i64 ((N : Int) - m), .pointer (some ⟨Bx, 0, none⟩), .agg #[.int .u64 i, .int .u64 t, .slice A N c], .func (.func 71) #[] #[.pointer (some ⟨w.heap.size + 1 + 1 + 1, 0, none⟩)], .int .i64 ((N : Int) - m), atV (spotN i t (es ps) (N - m)), undef, undef, undef, undef, undef], defers := [] })
    (fun m a' _ X Y row hs hg hr => by obtain ⟨Bx, h1, h2⟩ := hs; exact ⟨Bx, blkL_own Bx 24 (fun (_ : Unit) => _) () X Y row h1 hg (fun r e => (hr r e).2), h2⟩)
    ?assign ?body ?done ?stop
  case own2 =>
    intro c s X Y row hs hg hr
    obtain ⟨⟨hc, pre', m, h1, h2, h3, h4⟩, hB⟩ := hs
    exact ⟨⟨hc, pre', m, h1, h2, h3, blkL_own _ _ (fun (_ : Unit) => _) () X Y row h4 hg (fun r e => (hr r e).2)⟩, (show OwnFrom W0.heap.size (fun (_ : Unit) W => Below w.heap.size w W) from ownFrom_below (by omega) (by omega)) () X Y row hB hg hr⟩
  case assign =>
    rintro l pre m W K ⟨⟨⟨b1, b2⟩, b3, b4⟩, b5, hB⟩ hK
    simp only [spotEnc, atV]
    gi_wp2
    exact hK _ _ ((KeepsOthers.alloc _ _).from _) (fun h => ⟨h.1.alloc _, h.2.alloc _⟩) ⟨⟨⟨b1.alloc _, b2.alloc _⟩, b3.alloc _, b4.alloc _⟩, b5, hB.alloc hB.size _⟩ ⟨W.heap.size, Blk.new _ _ _, rfl⟩
  case body =>
    rintro l pre m a' W hl - ⟨⟨⟨b1, b2⟩, b3, b4⟩, b5, hB⟩ ⟨Bx, bx, rfl⟩ hlt
    have c0 := bx.cell 0
    have cx := b3.cell 0
    have c4 := b4.cell 0
    have f4 := b4.frozen 0
    simp at c0 cx c4
    cases hh : hitB i x N m with
    | false =>
      have hq : ((spotN i t (es ps) (N - m)).1 == x) = false := hh
      have HH := Lib.hid hh
      clear hh
      gi_wp2
      exact ⟨KeepsFrom.refl _ _, fun h => h, ⟨⟨b1, b2⟩, b3, b4⟩, fun y hy => by rcases List.mem_append.1 hy with hy | hy; exact b5 y hy; rw [List.mem_singleton.1 hy]; exact HH.out, hB⟩
    | true =>
      have hq : ((spotN i t (es ps) (N - m)).1 == x) = true := hh
      have HH := Lib.hid hh
      clear hh
      gi_wp2
      exact ⟨(KeepsOthers.setCell _ _ _).from _, ⟨rfl, pre, m, rfl, b5, HH.out, b4.put 0 _⟩, hB.setCell (by simp; omega) _⟩
  case done =>
    rintro D ys W hD rfl ⟨⟨⟨b1, b2⟩, b3, b4⟩, b5, hB⟩ hK
    have HF : Hid (ofN i x N = -1) := by unfold Hid ofN; rw [List.find?_eq_none.2 (fun m hm => by rw [b5 m hm]; simp)]
    have c4 := b4.cell 0
    have f4 := b4.frozen 0
    simp at c4
    have hK' : (W.setCell ⟨w.heap.size + 1 + 1, 0, none⟩ (.int .i64 (-1))).heap[D]? = some (.deferred (some [])) := (Below.heap_setCell W _ _ D (by show D ≠ w.heap.size + 1 + 1; omega)).trans hK
    go_wp2
    refine ⟨by simp, .inl ⟨_, _, rfl, run_takeDeferred hK', ?_⟩⟩
    have r := (b4.put 0 (.int .i64 (-1))).putObj (o' := .deferred none) hK' rfl
    have r0 := r.cell 0
    simp at r0
    refine ⟨_, by simp [results, Try.results50, go_sem, r0]; rfl, ?_⟩
    exact ⟨(congrArg (fun b => Ending.returned (.int .i64 b)) HF.out).symm, (hB.setCell (p := ⟨w.heap.size + 1 + 1, 0, none⟩) (by show w.heap.size ≤ w.heap.size + 1 + 1; omega) _).grown (grownBy_putObj' _ D _) (by have := hB.size; simpa using this) (fun k hk => by injection hk with hk; omega)⟩
  case stop =>
    rintro D c pre W hD ⟨m, hm, rfl⟩ ⟨⟨rfl, pre', m', h1, h2, h3, h4⟩, hB⟩ hK
    rw [List.range_succ] at h1
    obtain ⟨e1, e2⟩ := List.append_inj' h1 rfl
    injection e2 with e2
    subst e1 e2
    have HF : Hid (ofN i x N = (N : Int) - m) := by
      unfold Hid ofN
      have : (List.range (N + 1)).find? (hitB i x N) = some m := by
        rw [List.find?_eq_some_iff_append]
        refine ⟨h3, List.range m, (List.range (N + 1)).drop (m + 1), ?_, fun y hy => by rw [h2 y hy]; rfl⟩
        have h := (List.take_append_drop (m + 1) (List.range (N + 1))).symm
        rw [List.take_range, show min (m + 1) (N + 1) = m + 1 by omega, show List.range (m + 1) = List.range m ++ [m] from List.range_succ, List.append_assoc] at h
        exact h
      rw [this]
    have r := h4.putObj (o' := .deferred none) hK rfl
    have r0 := r.cell 0
    simp at r0
    refine (wpIn_wide (n := 8)).2 ?_
    go_wp2
    refine ⟨by simp, .inl ⟨_, _, rfl, run_takeDeferred hK, ?_⟩⟩
    refine ⟨_, by simp [results, Try.results50, go_sem, r0]; rfl, ?_⟩
    exact ⟨(congrArg (fun b => Ending.returned (.int .i64 b)) HF.out).symm, hB.grown (grownBy_putObj' _ D _) hB.size (fun k hk => by injection hk with hk; omega)⟩
end Go.Proofs.Ytpckkajodpiiaaa
