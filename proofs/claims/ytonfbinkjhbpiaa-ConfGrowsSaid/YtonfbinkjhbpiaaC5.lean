/- The walks of the conf layer: which members are the same, a crew as members, who is asked. No condition. -/
import Derived.Test.YtonfbinkjhbpiaaC4
namespace Go.Proofs.Ytonfbinkjhbpiaa
open Go.RowKit Go.Shelf
set_option linter.unusedVariables false

set_option maxHeartbeats 400000 in
theorem equalInt_any (A B : Option Addr) (n c m d : Nat) (l r : List Int) (w : World) {e1 : Option TypeId} (hs : Sees w e1 1 A n (ib .i64 l)) {e2 : Option TypeId} (hr : Sees w e2 1 B m (ib .i64 r)) (hn : n ≤ 1000000000000) :
    Calls Try.prog 21 #[.slice A n c, .slice B m d] w fun e w' => e = .returned (.bool (eqB l r)) ∧ ∃ nq, w' = w.drewN nq := by
  have HL := Lib.hid hs.len
  have HR := Lib.hid hr.len
  by_cases hnm : n = m
  · subst hnm
    go_enter Try.func21, Try.ntmps21
    go_wp2
    go_loopw [5, 13] (fun _ i wr => ∃ (k q : Nat), k ≤ n ∧ i = .int .i64 k ∧ Hid (l.take k = r.take k) ∧ wr = w.drewN q) (fun _ i _ => n - (intOf i).toNat)
    case atStart => exact ⟨0, 0, by omega, rfl, by simp [Hid], rfl⟩
    case round =>
      obtain ⟨k, q, hk, rfl, HT, rfl⟩ := hrel
      by_cases hlt : k < n
      · obtain ⟨ad, u, rfl, hu, hc⟩ := hs.at_ hlt
        obtain ⟨x, hx, rfl⟩ := ib_get hu
        obtain ⟨ad2, u2, rfl, hu2, hc2⟩ := hr.at_ hlt
        obtain ⟨y, hy, rfl⟩ := ib_get hu2
        have HX := Lib.hid hx
        have HY := Lib.hid hy
        clear hx hy hu hu2
        have hkI : (k : Int) < n := by omega
        by_cases hxy : x = y
        · subst hxy
          go_wp2_with fail
          go_quiet (fail)
          go_wp2
          go_roundw
          case rel => exact ⟨k + 1, q + nq, by omega, by go_num, by unfold Hid; rw [take_snoc HX.out, take_snoc HY.out, HT.out], by simp⟩
          case measure => simp [intOf]; omega
        · have hb : (x == y) = false := by simpa using hxy
          have hb2 : (x != y) = true := by simpa using hxy
          go_wp2_with fail
          go_quiet (fail)
          go_wp2
          go_ret
          refine ⟨ret_bool (eqB_false fun e => ?_).symm, q + nq, by simp⟩
          subst e
          exact hxy (Option.some.inj (HX.out.symm.trans HY.out))
      · go_wp2
        go_ret
        obtain rfl : k = n := by omega
        refine ⟨ret_bool (eqB_true ?_).symm, _, rfl⟩
        have h := HT.out
        rwa [List.take_of_length_le (by have := HL.out; omega), List.take_of_length_le (by have := HR.out; omega)] at h
  · have hb : ((n : Int) == (m : Int)) = false := by simp; omega
    have hb2 : ((n : Int) != (m : Int)) = true := by simp; omega
    go_enter Try.func21, Try.ntmps21
    go_wp2
    go_ret
    refine ⟨ret_bool (eqB_false fun e => ?_).symm, 0, rfl⟩
    subst e
    exact hnm (HL.out.symm.trans HR.out)

set_option maxHeartbeats 400000 in
theorem equalByte_any (A B : Option Addr) (n c m d : Nat) (l r : List Int) (w : World) {e1 : Option TypeId} (hs : Sees w e1 1 A n (ib .u8 l)) {e2 : Option TypeId} (hr : Sees w e2 1 B m (ib .u8 r)) (hn : n ≤ 1000000000000) :
    Calls Try.prog 23 #[.slice A n c, .slice B m d] w fun e w' => e = .returned (.bool (eqB l r)) ∧ ∃ nq, w' = w.drewN nq := by
  have HL := Lib.hid hs.len
  have HR := Lib.hid hr.len
  by_cases hnm : n = m
  · subst hnm
    go_enter Try.func23, Try.ntmps23
    go_wp2
    go_loopw [5, 13] (fun _ i wr => ∃ (k q : Nat), k ≤ n ∧ i = .int .i64 k ∧ Hid (l.take k = r.take k) ∧ wr = w.drewN q) (fun _ i _ => n - (intOf i).toNat)
    case atStart => exact ⟨0, 0, by omega, rfl, by simp [Hid], rfl⟩
    case round =>
      obtain ⟨k, q, hk, rfl, HT, rfl⟩ := hrel
      by_cases hlt : k < n
      · obtain ⟨ad, u, rfl, hu, hc⟩ := hs.at_ hlt
        obtain ⟨x, hx, rfl⟩ := ib_get hu
        obtain ⟨ad2, u2, rfl, hu2, hc2⟩ := hr.at_ hlt
        obtain ⟨y, hy, rfl⟩ := ib_get hu2
        have HX := Lib.hid hx
        have HY := Lib.hid hy
        clear hx hy hu hu2
        have hkI : (k : Int) < n := by omega
        by_cases hxy : x = y
        · subst hxy
          go_wp2_with fail
          go_quiet (fail)
          go_wp2
          go_roundw
          case rel => exact ⟨k + 1, q + nq, by omega, by go_num, by unfold Hid; rw [take_snoc HX.out, take_snoc HY.out, HT.out], by simp⟩
          case measure => simp [intOf]; omega
        · have hb : (x == y) = false := by simpa using hxy
          have hb2 : (x != y) = true := by simpa using hxy
          go_wp2_with fail
          go_quiet (fail)
          go_wp2
          go_ret
          refine ⟨ret_bool (eqB_false fun e => ?_).symm, q + nq, by simp⟩
          subst e
          exact hxy (Option.some.inj (HX.out.symm.trans HY.out))
      · go_wp2
        go_ret
        obtain rfl : k = n := by omega
        refine ⟨ret_bool (eqB_true ?_).symm, _, rfl⟩
        have h := HT.out
        rwa [List.take_of_length_le (by have := HL.out; omega), List.take_of_length_le (by have := HR.out; omega)] at h
  · have hb : ((n : Int) == (m : Int)) = false := by simp; omega
    have hb2 : ((n : Int) != (m : Int)) = true := by simp; omega
    go_enter Try.func23, Try.ntmps23
    go_wp2
    go_ret
    refine ⟨ret_bool (eqB_false fun e => ?_).symm, 0, rfl⟩
    subst e
    exact hnm (HL.out.symm.trans HR.out)

/-- Members, as a value. -/
abbrev cf (A : Option Addr) (n c : Nat) : Value := .agg #[.slice A n c]

theorem same_any (A B : Option Addr) (n c m d : Nat) (l r : List Int) (w : World) {e1 : Option TypeId} (hs : Sees w e1 1 A n (ib .i64 l)) {e2 : Option TypeId} (hr : Sees w e2 1 B m (ib .i64 r)) (hn : n ≤ 1000000000000) :
    Calls Try.prog 17 #[cf A n c, cf B m d] w fun e w' => e = .returned (.bool (eqB l r)) ∧ Below w.heap.size w w' := by
  go_enter Try.func17, Try.ntmps17
  go_wp2_with (go_at_call 21; refine (equalInt_any A B n c m d l r _ ((hs.alloc _).alloc _) ((hr.alloc _).alloc _) hn).mono ?_; rintro e w1 ⟨rfl, nq, rfl⟩)
  go_ret
  exact ⟨rfl, below_drewN (((Below.refl _ w).alloc (Nat.le_refl _) _).alloc (by simp) _) nq⟩

theorem own_form {w : World} {base : Nat} {e : TypeId} {size n : Nat} {v : Value} {xs : List Value} (h : w.ownsRow base e size v n xs) : ∃ A c, v = .slice A n c := by
  rcases h.2 with ⟨rfl, h0⟩ | ⟨g, cap, cur, rfl, _⟩
  · exact ⟨none, 0, by rw [h0]⟩
  · exact ⟨_, _, rfl⟩

theorem collect_any (Bn X : Nat) (hX : X < 64) (w : World) (hBn : Bn < w.heap.size) (hc0 : w.cell? ⟨Bn, 0, none⟩ = some (.int .u64 X)) :
    Calls Try.prog 52 #[.func (.func 51) #[] #[.pointer (some ⟨Bn, 0, none⟩)]] w
      fun e w' => ∃ A c, e = .returned (.slice A (sizeN X) c) ∧ w'.ownsRow w.heap.size 3 1 (.slice A (sizeN X) c) (sizeN X) (ib .i64 (memS X)) ∧ Below w.heap.size w w' := by
  go_enter Try.func52, Try.ntmps52
  go_wp2_with (go_at_call 55; refine (callsIn_wide.1 (appendSeq_in 3 (by omega) Bn X hX w hBn hc0)).mono ?_; rintro e w1 ⟨v, rfl, hown, hb⟩; obtain ⟨A, c, rfl⟩ := own_form hown)
  go_ret
  exact ⟨A, c, rfl, hown, hb⟩

theorem own_set_low {w : World} {base g i : Nat} {e : TypeId} {size n : Nat} {v u : Value} {xs : List Value} (h : w.ownsRow base e size v n xs) (hg : g < base) : (w.setCell ⟨g, i, none⟩ u).ownsRow base e size v n xs := by
  refine h.kept (grown_set w g i u) ?_
  rcases h.2 with ⟨rfl, h0⟩ | ⟨g', cap, cur, rfl, hb, _⟩
  · exact .inl rfl
  · refine .inr fun e' => ?_
    have : g' = g := by simpa [Value.ownBlock] using e'
    omega

theorem conf_any (X : Nat) (hX : X < 64) (w : World) : Calls Try.prog 47 #[.int .u64 X] w
    fun e w' => ∃ A c, e = .returned (cf A (sizeN X) c) ∧ w'.ownsRow w.heap.size 3 1 (.slice A (sizeN X) c) (sizeN X) (ib .i64 (memS X)) ∧ Below w.heap.size w w' := by
  have B1 : Below w.heap.size w (w.alloc (.cells #[.slice none 0 0] 27)) := (Below.refl _ w).alloc (Nat.le_refl _) _
  have B2 := B1.alloc (by simp) (.cells #[.int .u64 X] 66)
  have K2 := (Blk.new w 27 #[.slice none 0 0]).alloc (.cells #[.int .u64 X] 66)
  have K3 := Blk.new (w.alloc (.cells #[.slice none 0 0] 27)) 66 #[.int .u64 X]
  have HB2 := Lib.hid B2
  have HK2 := Lib.hid K2
  have C3 := K3.cell 0
  simp only [World.size_alloc] at C3
  have HC3 : Hid (((w.alloc (.cells #[.slice none 0 0] 27)).alloc (.cells #[.int .u64 X] 66)).cell? ⟨w.heap.size + 1, 0, none⟩ = some (.int .u64 X)) := C3
  clear B1 B2 K2 K3 C3
  go_enter Try.func47, Try.ntmps47
  go_wp2_with (first | (go_at_call 45; refine (numbers_any X _).mono ?_; rintro e w1 ⟨rfl, rfl⟩) | (go_at_call 52; refine (collect_any _ X hX _ (by simp) HC3.out).mono ?_; rintro e w1 ⟨A, c, rfl, hown, hb⟩; have k2 := HK2.out.below hb; have hc2 := k2.cell 0; have hf2 := k2.frozen 0))
  have k4 := k2.put 0 (.slice A (sizeN X) c)
  have r0 := k4.cell 0
  simp at r0
  refine bodyPost_ret (v := cf A (sizeN X) c) (by simp [results, Try.results47, go_sem, r0]) rfl ?_
  refine ⟨A, c, rfl, own_mono (own_set_low hown (by simp; omega)) (by simp; omega), ?_⟩
  exact (HB2.out.trans (hb.mono (by simp; omega))).setCell (by simp) _
end Go.Proofs.Ytonfbinkjhbpiaa
