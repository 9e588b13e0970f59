/- Entries in memory of their own. No condition. -/
import Derived.Test.YtpckkajodpiiaaaE8
namespace Go.Proofs.Ytpckkajodpiiaaa
open Go.RowKit
set_option linter.unusedVariables false
set_option linter.unusedSimpArgs false

theorem Sees.any {w : World} {e : Option TypeId} {size n : Nat} {A : Option Addr} {xs : List Value} (h : Sees w e size A n xs) : Sees w none size A n xs :=
  ⟨h.1, h.2.1, fun ad ha => ⟨fun h0 => by obtain ⟨cur, t, fz, hc, _⟩ := (h.2.2 ad ha).1 h0; exact ⟨cur, t, fz, hc, fun _ h => by cases h⟩, (h.2.2 ad ha).2⟩⟩
/-- An entry whose bytes lie at or above a block. -/
def Fresh (base : Nat) (w : World) (p : EP) : Prop := DataE w p ∧ Sees w (some 5) 1 p.A p.n (ib .u8 p.e.D) ∧ ∀ ad, p.A = some ad → base ≤ ad.block
theorem Fresh.below {base : Nat} {w w' : World} {p : EP} (h : Fresh base w p) (hb : Below w.heap.size w w') : Fresh base w' p := ⟨h.1.below hb, h.2.1.below hb, h.2.2⟩
theorem Fresh.far {base : Nat} {w : World} {p : EP} (h : Fresh base w p) {q : Addr} (hq : ∀ ad, p.A = some ad → 0 < p.n → ad.block ≠ q.block) (u : Value) : Fresh base (w.setCell q u) p :=
  ⟨⟨h.1.sees.far hq u, h.1.nc, h.1.small, h.1.t0, h.1.t1⟩, h.2.1.far hq u, h.2.2⟩
theorem own_sees_ne {w : World} {base size g n c : Nat} {e t : TypeId} {xs ys : List Value} {A : Option Addr} {s m : Nat} (h : w.ownsRow base e size (.slice (some ⟨g, 0, none⟩) n c) n xs) (hs : Sees w (some t) s A m ys) (hne : t ≠ e) : ∀ ad, A = some ad → 0 < m → ad.block ≠ g := by
  rintro ad ha h0 rfl
  obtain ⟨cur, t', fz, hc, ht'⟩ := (hs.2.2 ad ha).1 h0
  rcases h.2 with ⟨hv, _⟩ | ⟨g', cap, cur', hv, _, hg, _⟩
  · cases hv
  · injection hv with hA
    injection hA with hA
    injection hA with hA
    subst hA
    rw [hc] at hg
    injection hg with hg
    injection hg with _ ht _
    exact hne ((ht' t rfl).symm.trans ht)
/-- A row of entries, it and their bytes at or above a block. -/
def OwnE (w : World) (base : Nat) (A : Option Addr) (n c : Nat) (ps : List EP) : Prop :=
  w.ownsRow base 46 3 (.slice A n c) n (em ps) ∧ ∀ p ∈ ps, Fresh base w p
theorem OwnE.sees {w : World} {base n c : Nat} {A : Option Addr} {ps : List EP} (h : OwnE w base A n c ps) : SeesE w (some 46) A n ps := ⟨Sees.of_own h.1, fun p hp => (h.2 p hp).1⟩
theorem OwnE.below {w w' : World} {base n c : Nat} {A : Option Addr} {ps : List EP} (h : OwnE w base A n c ps) (hb : Below w.heap.size w w') : OwnE w' base A n c ps := ⟨own_below h.1 hb, fun p hp => (h.2 p hp).below hb⟩
theorem em_set (qs ps : List EP) (p : EP) (A : Option Addr) (n c : Nat) : (em (qs ++ p :: ps)).set (qs.length * 3 + 2) (.slice A n c) = em (qs ++ ⟨p.e, A, n, c⟩ :: ps) := by
  rw [em_app, em_app, List.set_append, if_neg (by rw [em_len]; omega), em_len, show qs.length * 3 + 2 - qs.length * 3 = 2 by omega]
  rfl

set_option maxHeartbeats 1600000 in
theorem cloned_any {e2 : Option TypeId} (A : Option Addr) (n c : Nat) (ps : List EP) (w : World) (hs : SeesE w e2 A n ps) (hn : n ≤ 1000000000) (hdl : ∀ p ∈ ps, p.n ≤ 1000000000000) :
    Calls Try.prog 68 #[.slice A n c] w fun e w' => ∃ A' c' qs, e = .returned (.slice A' n c') ∧ es qs = es ps ∧ OwnE w' w.heap.size A' n c' qs ∧ Below w.heap.size w w' := by
  have HPL := Lib.hid hs.len
  go_enter Try.func68, Try.ntmps68
  go_wp2_with fail
  refine (eclone_any A n c ps _ hs.1 hn).mono ?_
  rintro e x1 ⟨A1, c1, rfl, ho1, hb1⟩
  have hnc := (own_cap ho1).1
  go_wp2
  go_loopw [3, 8] (fun u i wr => ∃ (k : Nat) (qs : List EP), k ≤ n ∧ i = .int .i64 k ∧ qs.length = k ∧ Hid (es qs = es (ps.take k)) ∧ wr.ownsRow w.heap.size 46 3 (.slice A1 n c1) n (em (qs ++ ps.drop k)) ∧ (∀ p ∈ qs, Fresh w.heap.size wr p) ∧ Below w.heap.size w wr) (fun _ i _ => n - (intOf i).toNat)
  case atStart => exact ⟨0, [], by omega, rfl, rfl, rfl, ho1, by simp, hb1⟩
  case round =>
    obtain ⟨k, qs, hk, rfl, hqk, HS, ho, hF, hB⟩ := hrel
    by_cases hlt : k < n
    · obtain ⟨g, cap, hv, hbg, hlg⟩ := ho.form (by omega)
      obtain ⟨rfl, rfl⟩ : A1 = some ⟨g, 0, none⟩ ∧ c1 = cap := by injection hv with h1 h2 h3; exact ⟨h1, h3⟩
      clear hv
      obtain ⟨p, hp⟩ : ∃ p, ps[k]? = some p := ⟨ps[k]'(by have := HPL.out; omega), List.getElem?_eq_getElem _⟩
      have hd : DataE wr p := (hs.2 p (List.mem_of_getElem? hp)).below hB
      have hpl := hdl p (List.mem_of_getElem? hp)
      have HD : Hid (ps.drop k = p :: ps.drop (k + 1)) := by
        unfold Hid
        rw [List.drop_eq_getElem_cons (List.getElem?_eq_some_iff.1 hp).1, (List.getElem?_eq_some_iff.1 hp).2]
      have HT : Hid (es (ps.take (k + 1)) = es (ps.take k) ++ [p.e]) := by
        unfold Hid es
        rw [take_snoc hp, List.map_append]
        rfl
      clear hp
      rw [HD.out] at ho
      have hc2 : wr.cell? ⟨g, k * 3 + 2, none⟩ = some (.slice p.A p.n p.c) := by
        have := ho.cellAt (k * 3 + 2) (by omega)
        rw [this, em_app, List.getElem?_append_right (by rw [em_len]; omega), em_len, hqk, show k * 3 + 2 - k * 3 = 2 by omega]
        rfl
      have f2 := ho.frozenAt (k * 3 + 2)
      go_wp2_with fail
      refine (bclone_any p.A p.n p.c p.e.D _ hd.sees hpl).mono ?_
      rintro e x2 ⟨A2, c2, rfl, ho2, hb2⟩
      have hsz := hB.size
      have HB2 := Lib.hid (hB.trans (hb2.mono hB.size))
      have o1 := own_below ho hb2
      have hF1 : ∀ p ∈ qs, Fresh w.heap.size x2 p := fun p hp => (hF p hp).below hb2
      have f3 : x2.frozen? ⟨g, k * 3 + 2, none⟩ = false := o1.frozenAt (k * 3 + 2)
      have hN : Fresh w.heap.size x2 ⟨p.e, A2, p.n, c2⟩ := ⟨⟨Sees.any (Sees.of_own ho2), (own_cap ho2).1, (own_cap ho2).2, hd.t0, hd.t1⟩, Sees.of_own ho2, fun ad ha => by
        have ha' : A2 = some ad := ha
        have := (ho2.lt ad.block (by rw [ha']; rfl)).1
        omega⟩
      have c3 : x2.cell? ⟨g, k * 3 + 2, none⟩ = some (.slice p.A p.n p.c) := (hb2.cell (World.block_lt_of_cell? wr _ hc2)).trans hc2
      clear hc2 f2 hF hb2 ho2
      go_wp2
      go_roundw
      case rel =>
        refine ⟨k + 1, qs ++ [⟨p.e, A2, p.n, c2⟩], by omega, by go_num, by simp [hqk], ?_, ?_, ?_, HB2.out.setCell (by simpa using hbg) _⟩
        · unfold Hid
          rw [HT.out, ← HS.out]
          unfold es
          rw [List.map_append]
          rfl
        · have o2 := (o1.stored (k * 3 + 2) (.slice A2 p.n c2)).1
          rw [← hqk, em_set] at o2
          rw [List.append_assoc, ← hqk]
          exact o2
        · intro r hr
          rcases List.mem_append.1 hr with hr | hr
          · exact (hF1 r hr).far (own_sees_ne o1 (hF1 r hr).2.1 (by decide)) _
          · obtain rfl := List.mem_singleton.1 hr
            exact hN.far (own_sees_ne o1 hN.2.1 (by decide)) _
      case measure => simp [intOf]; omega
    · obtain rfl : k = n := by omega
      have hd : ps.drop k = [] := List.drop_eq_nil_of_le (by have := HPL.out; omega)
      rw [hd, List.append_nil] at ho
      have HS2 : Hid (es qs = es ps) := by unfold Hid; rw [HS.out, List.take_of_length_le (by have := HPL.out; omega)]
      clear hd
      go_wp2
      go_ret
      exact ⟨A1, c1, qs, rfl, HS2.out, ⟨ho, hF⟩, hB⟩
end Go.Proofs.Ytpckkajodpiiaaa
