/- The walk of OctetBack, which returns true. No condition. -/
import Derived.Test.YtnlgdcoeooppnaaRows
import Derived.Test.YtnlgdcoeooppnaaW9
import Derived.Test.YtnlgdcoeooppnaaRead
import Derived.WalkKit
import Derived.BigQuiet
import Derived.Deep.QuietTactic
import Derived.Deep.RegionHeld3
import Derived.WalkLawsBesides
import Derived.Lib.Hide
namespace Go.Proofs.Ytnlgdcoeooppnaa.octetBack
open Go.RowKit
set_option linter.unusedVariables false


/-- What is put for one number. -/
def enc1 (x : Int) : List Int := [x % 256] ++ hiT (x % 65536) 8 2 ++ hiT (x % 4294967296) 24 4 ++ hiT x 56 8
def encS (l : List Int) : List Int := l.flatMap enc1
theorem enc1_length (x : Int) : (enc1 x).length = 15 := by simp [enc1, hiT_length]
theorem encS_length (l : List Int) : (encS l).length = 15 * l.length := by
  induction l with
  | nil => rfl
  | cons x l ih =>
    have : encS (x :: l) = enc1 x ++ encS l := by simp [encS]
    rw [this, List.length_append, enc1_length, ih, List.length_cons]
    omega
theorem encS_snoc (l : List Int) (x : Int) : encS (l ++ [x]) = (((encS l ++ [x % 256]) ++ hiT (x % 65536) 8 2) ++ hiT (x % 4294967296) 24 4) ++ hiT x 56 8 := by
  simp [encS, enc1]
theorem enc1_isB (x : Int) : isB (enc1 x) := by
  have h : isB [x % 256] := fun y hy => by
    simp at hy
    omega
  exact ((h.append (hiT_isB _ _ _)).append (hiT_isB _ _ _)).append (hiT_isB _ _ _)
theorem encS_isB (l : List Int) : isB (encS l) := fun y hy => by
  simp only [encS, List.mem_flatMap] at hy
  obtain ⟨x, _, hx⟩ := hy
  exact enc1_isB x y hx
theorem encS_at (l r : List Int) (k : Nat) (x : Int) (h : l[k]? = some x) : ∃ tl, (encS l ++ r).drop (15 * k) = enc1 x ++ tl := by
  obtain ⟨hk, hx⟩ := List.getElem?_eq_some_iff.1 h
  have e : l = l.take k ++ (x :: l.drop (k + 1)) := by
    rw [← hx, ← List.drop_eq_getElem_cons hk, List.take_append_drop]
  have e2 : encS l ++ r = encS (l.take k) ++ (enc1 x ++ (encS (l.drop (k + 1)) ++ r)) := by
    conv => lhs; rw [e]
    simp [encS]
  refine ⟨encS (l.drop (k + 1)) ++ r, ?_⟩
  rw [e2, List.drop_left' (by rw [encS_length, List.length_take, Nat.min_eq_left (by omega)])]
theorem next_at {b p q : List Int} {a j : Nat} (hd : b.drop a = p ++ q) (hp : p.length = j) (hj : 0 < j) : nextS b a 0 (j : Int) = (a + j, 0, p) := by
  have h1 := congrArg List.length hd
  rw [List.length_drop, List.length_append] at h1
  rw [nextS, if_neg (by simp), if_neg (by omega), if_neg (by omega)]
  simp only [Int.toNat_natCast, hd]
  rw [List.take_left' hp]
theorem next_all {b p : List Int} {a j : Nat} (hd : b.drop a = p) (hp : p.length = j) (ha : a ≤ b.length) : nextS b a 0 (j : Int) = (a + j, 0, p) := by
  have h1 := congrArg List.length hd
  rw [List.length_drop] at h1
  rw [nextS, if_neg (by simp), if_neg (by omega), if_neg (by omega)]
  simp only [Int.toNat_natCast, hd]
  rw [List.take_of_length_le (by omega)]
theorem drop_more {b p q : List Int} {a j : Nat} (hd : b.drop a = p ++ q) (hp : p.length = j) : b.drop (a + j) = q := by
  rw [← List.drop_drop, hd, List.drop_left' hp]

set_option maxRecDepth 100000 in
set_option maxHeartbeats 3200000 in
theorem walkA (w : World) (A : Option Addr) (n c : Nat) (l : List Int) (w0 : Row w .u64 A n c l) (B : Option Addr) (m d : Nat) (r : List Int) (w1 : Row w .u8 B m d r) (hcase : n ≤ 20) :
    Calls Try.prog 9 #[.slice A n c, .slice B m d] w fun e w' => e = .returned (.bool true) ∧ Below w.heap.size w w' := by
  have hcn : c ≤ 9223372036854775807 := by have h2 := w0.small; unfold maxLen at h2; omega
  have hnc := w0.nc
  have hBr : isB (r.take 300) := isB.take (wf_u8 w1.wf) _
  have hll : l.length = n := w0.sees.len
  have hLL : (l).length = n := by exact hll
  have hwf : ∀ x ∈ (l), 0 ≤ x ∧ x < 18446744073709551616 := fun x hx => by
    have := w0.wf x (hx)
    simp [Lit.wf, IntKind.min, IntKind.max, IntKind.signed, IntKind.bits] at this
    omega
  have hsL : Sees w none 1 A n (ib .u64 (l)) := by exact w0.sees
  obtain ⟨L, HL⟩ : ∃ L, Hid (L = (l)) := ⟨_, rfl⟩
  rw [← HL.out] at hLL hwf hsL
  have HLL := Lib.hid hLL
  clear w0 hll hLL
  go_enter Try.func9, Try.ntmps9
  go_wp2_with (go_at_call 11; refine (wakes_any w).mono ?_; rintro e x1 ⟨rfl, hb1⟩)
  refine (few_any B m d r x1 (w1.sees.below hb1) w1.nc w1.small).mono ?_
  rintro e x2 ⟨A2, n2, c2, rfl, hn2, ho2, hb2⟩
  have hB2 := hb1.trans (hb2.mono hb1.size)
  obtain ⟨b, Hb⟩ : ∃ b, Hid (b = r.take 300) := ⟨_, rfl⟩
  rw [← Hb.out] at ho2 hBr
  have h2 := Sees.of_own ho2
  have Hbl := Lib.hid h2.len
  clear ho2 hb1 hb2 w1
  go_wp2_with fail
  go_loopw [5, 24] (fun v i wr => ∃ (k len : Nat) (A' : Option Addr) (c' : Nat), k ≤ n ∧ len ≤ 15 * k ∧ i = .int .i64 k ∧ v = .slice A' len c' ∧
      wr.ownsRow x2.heap.size 5 1 (.slice A' len c') len (ib .u8 (encS (L.take k))) ∧ Below x2.heap.size x2 wr) (fun _ i _ => n - (intOf i).toNat)
  case atStart => exact ⟨0, 0, none, 0, by omega, by omega, rfl, rfl, by simpa [encS, ib] using World.ownsRow_nil x2 _ _ _, Below.refl _ _⟩
  case round =>
    obtain ⟨k, len, A3, c3, hk, hlen, rfl, rfl, ho3, hbr⟩ := hrel
    have hBo := hB2.trans (hbr.mono hB2.size)
    by_cases hlt : k < n
    · obtain ⟨ad, u, rfl, hu, hc⟩ := (hsL.below hBo).at_ hlt
      obtain ⟨x, hx, rfl⟩ := ib_get hu
      obtain ⟨hx0, hx1⟩ := hwf x (List.mem_of_getElem? hx)
      have HS := Lib.hid (take_snoc hx)
      clear hu hx
      go_wp2_with (at_builtin; refine Door.enter ?_)
      refine Door.leave (wl_append_lit ty_bytes ho3 (m := 1) (k := len + 1) rfl rfl (zs := ib .u8 (encS (L.take k) ++ [x % 256])) (by simp [ib]) (by simp [Value.oneCell']) (by omega) hbr.size rfl rfl rfl rfl ?_)
      intro A4 c4 x4 ho4 hb4 _ _
      have hb4' := hbr.trans hb4
      clear ho3 hb4 hBo
      go_wp2_with fail
      try rw [IntKind.wrap_u16]
      refine (put16_any A4 (len + 1) c4 _ (x % 65536) _ (Sees.of_own ho4) (by omega) (by omega) (by omega)).mono ?_
      rintro e x5 ⟨A5, c5, rfl, ho5, hb5⟩
      have hb5' := hb4'.trans (hb5.mono hb4'.size)
      clear ho4 hb5
      go_wp2_with fail
      try rw [IntKind.wrap_u32]
      refine (put32_any A5 (len + 1 + 2) c5 _ (x % 4294967296) _ (Sees.of_own ho5) (by omega) (by omega) (by omega)).mono ?_
      rintro e x6 ⟨A6, c6, rfl, ho6, hb6⟩
      have hb6' := hb5'.trans (hb6.mono hb5'.size)
      clear ho5 hb6
      go_wp2_with fail
      refine (put64_any A6 (len + 1 + 2 + 4) c6 _ x _ (Sees.of_own ho6) (by omega) (by omega) (by omega)).mono ?_
      rintro e x7 ⟨A7, c7, rfl, ho7, hb7⟩
      have hb7' := hb6'.trans (hb7.mono hb6'.size)
      have ho7' := own_mono ho7 (base' := x2.heap.size) hb6'.size
      rw [← encS_snoc, ← HS.out] at ho7'
      clear ho6 hb7 ho7 hb4' hb5' hb6' hbr
      go_wp2
      go_roundw
      case rel => exact ⟨k + 1, _, A7, c7, by omega, by omega, by go_num, rfl, ho7', hb7'⟩
      case measure => simp [intOf]; omega
    · rw [List.take_of_length_le (by rw [HLL.out]; omega)] at ho3
      have hkk : len ≤ 300 := by omega
      have hkn : ¬ (k : Int) < n := by omega
      have h3 := h2.below hbr
      go_wp2_with (at_builtin; refine Door.enter ?_)
      refine Door.leave (wl_append ty_bytes ho3 h3 rfl (zs := ib .u8 (encS L ++ b)) (by simp [ib]) (ib_one _ _) (by omega) hbr.size rfl rfl rfl rfl ?_)
      intro A4 c4 x4 ho4 hb4 _ _
      have hb4' := hbr.trans hb4
      have h4 := h2.below hb4'
      have hs4 := Sees.of_own ho4
      have hnc4 := own_cap ho4
      have hBL : isB (encS L ++ b) := (encS_isB L).append hBr
      have HBL := Lib.hid hs4.len
      have HE := Lib.hid (encS_length L)
      clear ho3 hb4 h3 hbr hBo ho4
      go_wp2_with fail
      refine (read_any (cap := c4) hs4 hnc4.1 (by omega)).mono ?_
      rintro e x5 ⟨g, rfl, hg, hR5, hb5⟩
      have h5 := h4.below hb5
      have hB5 := hB2.trans ((hb4'.trans (hb5.mono hb4'.size)).mono hB2.size)
      have hgg : x2.heap.size ≤ g := Nat.le_trans hb4'.size hg
      have hgw : w.heap.size ≤ g := Nat.le_trans hB2.size hgg
      clear hb4' hb5 h4 hs4 hg hB2 h2
      go_wp2_with fail
      go_loopw [47] (fun i wr => (i = .int .i64 0 ∨ i = .int .i64 1 ∨ i = .int .i64 2) ∧ Rd wr g A4 (len + n2) c4 (encS L ++ b) 0 0 ∧ Below w.heap.size w wr ∧
        Sees wr (some 5) 1 A2 n2 (ib .u8 b)) (fun i _ => (2 - intOf i).toNat)
      case atStart => exact ⟨.inl rfl, hR5, hB5, h5⟩
      case round =>
        clear hR5 hB5 h5
        obtain ⟨hi, hR, hB, hb⟩ := hrel
        obtain ⟨wo, hwo⟩ : ∃ wo : World, wo = wr := ⟨_, rfl⟩
        subst hwo
        rcases hi with rfl | rfl | rfl
        · go_wp2_with fail
          go_loopw [53] (fun i wr => ∃ j : Nat, j ≤ n ∧ i = .int .i64 j ∧ Rd wr g A4 (len + n2) c4 (encS L ++ b) (15 * j) 0 ∧ Below w.heap.size w wr ∧
            Sees wr (some 5) 1 A2 n2 (ib .u8 b)) (fun i _ => n - (intOf i).toNat)
          case atStart => exact ⟨0, by omega, rfl, hR, hB, hb⟩
          case round =>
            clear hR hB hb
            obtain ⟨j, hj, rfl, hR, hB, hb⟩ := hrel
            by_cases hjl : j < n
            · obtain ⟨ad, u, rfl, hu, hc⟩ := (hsL.below hB).at_ hjl
              obtain ⟨x, hx, rfl⟩ := ib_get hu
              obtain ⟨hx0, hx1⟩ := hwf x (List.mem_of_getElem? hx)
              obtain ⟨tl, htl⟩ := encS_at L b j x hx
              have e1 : (encS L ++ b).drop (15 * j) = [x % 256] ++ (hiT (x % 65536) 8 2 ++ (hiT (x % 4294967296) 24 4 ++ (hiT x 56 8 ++ tl))) := by rw [htl]; simp [enc1]
              have e2 := drop_more (j := 1) e1 rfl
              have e3 := drop_more (j := 2) e2 (hiT_length _ _ _)
              have e4 := drop_more (j := 4) e3 (hiT_length _ _ _)
              have N1 := Lib.hid (next_at (j := 1) e1 rfl (by omega))
              have N2 := Lib.hid (next_at (j := 2) e2 (hiT_length _ _ _) (by omega))
              have N3 := Lib.hid (next_at (j := 4) e3 (hiT_length _ _ _) (by omega))
              have N4 := Lib.hid (next_at (j := 8) e4 (hiT_length _ _ _) (by omega))
              have v2 := Lib.hid (numS_hi16 (x % 65536) (by omega) (by omega))
              have v3 := Lib.hid (numS_hi32 (x % 4294967296) (by omega) (by omega))
              have v4 := Lib.hid (numS_hi64 x hx0 hx1)
              have v1 : Hid (numS [x % 256] = x % 256) := by unfold Hid; simp [numS]
              have t2 : (x % 65536 != IntKind.u16.wrap x) = false := by rw [IntKind.wrap_u16]; simp
              have t3 : (x % 4294967296 != IntKind.u32.wrap x) = false := by rw [IntKind.wrap_u32]; simp
              clear hu hx htl e1 e2 e3 e4
              go_wp2_with fail
              refine (u8_any hR hBL).mono ?_
              rintro e y1 ⟨rfl, hR1, hg1⟩
              have N1' := N1.out
              simp only [Int.cast_ofNat_Int] at N1'
              rw [N1'] at hR1 ⊢
              simp only [v1.out] at hR1 ⊢
              clear N1'
              have hB1 := hB.trans (below_of_only hg1 hgw hB.size)
              have hb1 := hb.grown hg1 (fun ad h0 h1 e => by injection e with e; exact hR.blk.apart hb (by decide) ad h0 h1 e.symm)
              clear hR hB hb hg1
              go_wp2_with fail
              refine (u16_any hR1 hBL).mono ?_
              rintro e y2 ⟨rfl, hR2, hg2⟩
              have N2' := N2.out
              simp only [Int.cast_ofNat_Int] at N2'
              rw [N2'] at hR2 ⊢
              simp only [v2.out] at hR2 ⊢
              clear N2'
              have hB2 := hB1.trans (below_of_only hg2 hgw hB1.size)
              have hb2 := hb1.grown hg2 (fun ad h0 h1 e => by injection e with e; exact hR1.blk.apart hb1 (by decide) ad h0 h1 e.symm)
              clear hR1 hB1 hb1 hg2
              go_wp2_with fail
              refine (u32_any hR2 hBL).mono ?_
              rintro e y3 ⟨rfl, hR3, hg3⟩
              have N3' := N3.out
              simp only [Int.cast_ofNat_Int] at N3'
              rw [N3'] at hR3 ⊢
              simp only [v3.out] at hR3 ⊢
              clear N3'
              have hB3 := hB2.trans (below_of_only hg3 hgw hB2.size)
              have hb3 := hb2.grown hg3 (fun ad h0 h1 e => by injection e with e; exact hR2.blk.apart hb2 (by decide) ad h0 h1 e.symm)
              clear hR2 hB2 hb2 hg3
              go_wp2_with fail
              refine (u64_any hR3 hBL).mono ?_
              rintro e y4 ⟨rfl, hR4, hg4⟩
              have N4' := N4.out
              simp only [Int.cast_ofNat_Int] at N4'
              rw [N4'] at hR4 ⊢
              simp only [v4.out] at hR4 ⊢
              clear N4'
              have hB4 := hB3.trans (below_of_only hg4 hgw hB3.size)
              have hb4 := hb3.grown hg4 (fun ad h0 h1 e => by injection e with e; exact hR3.blk.apart hb3 (by decide) ad h0 h1 e.symm)
              clear hR3 hB3 hb3 hg4
              go_wp2
              go_roundw
              case rel => exact ⟨j + 1, by omega, by go_num, by rw [show 15 * (j + 1) = 15 * j + 1 + 2 + 4 + 8 by omega]; exact hR4, hB4, hb4⟩
              case measure => simp [intOf]; omega
            · have hjN : j = n := by omega
              have hlen2 : len = 15 * j := by
                have h1 := HBL.out
                have h2 := Hbl.out
                have h3 := HE.out
                have h4 := HLL.out
                rw [List.length_append] at h1
                omega
              have HJ := Lib.hid hlen2
              have hd : (encS L ++ b).drop (15 * j) = b := by
                rw [List.drop_left' (by rw [HE.out, HLL.out, hjN])]
              have N1 := Lib.hid (next_all hd Hbl.out (by rw [HBL.out]; omega))
              have N2 : Hid (goS (encS L ++ b) (15 * j + n2) 0 (-((len : Int) + n2)) = (0, 0)) := by
                unfold Hid goS
                have := HBL.out
                rw [if_neg (by omega), if_neg (by omega)]
                simp
                omega
              have hz1 : ((len : Int) + n2 - (15 * j + n2 : Nat) != 0) = false := by simp; omega
              have hz2 : (((15 * j + n2 : Nat) : Int) != (len : Int) + n2) = false := by simp; omega
              have hz3 : ((15 * j : Nat) : Int) = (len : Int) := by omega
              have hnj : ¬ (j : Int) < n := by omega
              clear hjl hjN hlen2 hd
              go_wp2_with fail
              refine (raw_any hR n2).mono ?_
              rintro e y1 ⟨A6, n6, c6, rfl, hR1, ho6, hg1⟩
              rw [N1.out] at hR1 ho6
              simp only at hR1 ho6
              have hB1 := hB.trans (below_of_only hg1 hgw hB.size)
              have hb1 := hb.grown hg1 (fun ad h0 h1 e => by injection e with e; exact hR.blk.apart hb (by decide) ad h0 h1 e.symm)
              clear hR hB hb hg1
              go_wp2_with fail
              refine (bytesEqual_any A6 A2 n6 c6 n2 c2 _ _ _ (Sees.of_own ho6) hb1 hBr hBr).mono ?_
              rintro e y2 ⟨rfl, rfl⟩
              rw [eqB_true rfl]
              go_wp2_with fail
              refine (left_any hR1).mono ?_
              rintro e y2 ⟨rfl, q2, rfl⟩
              rw [show (((len + n2 : Nat) : Int) - (15 * j + n2 : Nat)) = 0 from by have := HJ.out; omega]
              go_wp2_with fail
              refine (at_any (hR1.drewN _)).mono ?_
              rintro e y2 ⟨rfl, rfl⟩
              rw [show ((15 * j + n2 : Nat) : Int) = (len : Int) + n2 from by have := HJ.out; omega]
              go_wp2_with fail
              refine (err_any (hR1.drewN _)).mono ?_
              rintro e y2 ⟨rfl, rfl⟩
              go_wp2_with fail
              refine (go_any (hR1.drewN _) _).mono ?_
              rintro e y3 ⟨rfl, hR3, hg3⟩
              rw [N2.out] at hR3
              have hB3 := (below_drewN hB1 q2).trans (below_of_only hg3 hgw hB1.size)
              have hb3 := (hb1.drewN q2).grown hg3 (fun ad h0 h1 e => by injection e with e; exact hR1.blk.apart hb1 (by decide) ad h0 h1 e.symm)
              clear hR1 ho6 hB1 hb1 hg3
              go_wp2_with fail
              refine (at_any hR3).mono ?_
              rintro e y4 ⟨rfl, rfl⟩
              go_wp2_with fail
              refine (left_any hR3).mono ?_
              rintro e y4 ⟨rfl, q4, rfl⟩
              go_wp2
              go_roundw
              case rel => exact ⟨.inr (.inl rfl), hR3.drewN _, below_drewN hB3 _, hb3.drewN _⟩
              case measure => simp [intOf]
        · go_wp2_with fail
          go_loopw [53] (fun i wr => ∃ j : Nat, j ≤ n ∧ i = .int .i64 j ∧ Rd wr g A4 (len + n2) c4 (encS L ++ b) (15 * j) 0 ∧ Below w.heap.size w wr ∧
            Sees wr (some 5) 1 A2 n2 (ib .u8 b)) (fun i _ => n - (intOf i).toNat)
          case atStart => exact ⟨0, by omega, rfl, hR, hB, hb⟩
          case round =>
            clear hR hB hb
            obtain ⟨j, hj, rfl, hR, hB, hb⟩ := hrel
            by_cases hjl : j < n
            · obtain ⟨ad, u, rfl, hu, hc⟩ := (hsL.below hB).at_ hjl
              obtain ⟨x, hx, rfl⟩ := ib_get hu
              obtain ⟨hx0, hx1⟩ := hwf x (List.mem_of_getElem? hx)
              obtain ⟨tl, htl⟩ := encS_at L b j x hx
              have e1 : (encS L ++ b).drop (15 * j) = [x % 256] ++ (hiT (x % 65536) 8 2 ++ (hiT (x % 4294967296) 24 4 ++ (hiT x 56 8 ++ tl))) := by rw [htl]; simp [enc1]
              have e2 := drop_more (j := 1) e1 rfl
              have e3 := drop_more (j := 2) e2 (hiT_length _ _ _)
              have e4 := drop_more (j := 4) e3 (hiT_length _ _ _)
              have N1 := Lib.hid (next_at (j := 1) e1 rfl (by omega))
              have N2 := Lib.hid (next_at (j := 2) e2 (hiT_length _ _ _) (by omega))
              have N3 := Lib.hid (next_at (j := 4) e3 (hiT_length _ _ _) (by omega))
              have N4 := Lib.hid (next_at (j := 8) e4 (hiT_length _ _ _) (by omega))
              have v2 := Lib.hid (numS_hi16 (x % 65536) (by omega) (by omega))
              have v3 := Lib.hid (numS_hi32 (x % 4294967296) (by omega) (by omega))
              have v4 := Lib.hid (numS_hi64 x hx0 hx1)
              have v1 : Hid (numS [x % 256] = x % 256) := by unfold Hid; simp [numS]
              have t2 : (x % 65536 != IntKind.u16.wrap x) = false := by rw [IntKind.wrap_u16]; simp
              have t3 : (x % 4294967296 != IntKind.u32.wrap x) = false := by rw [IntKind.wrap_u32]; simp
              clear hu hx htl e1 e2 e3 e4
              go_wp2_with fail
              refine (u8_any hR hBL).mono ?_
              rintro e y1 ⟨rfl, hR1, hg1⟩
              have N1' := N1.out
              simp only [Int.cast_ofNat_Int] at N1'
              rw [N1'] at hR1 ⊢
              simp only [v1.out] at hR1 ⊢
              clear N1'
              have hB1 := hB.trans (below_of_only hg1 hgw hB.size)
              have hb1 := hb.grown hg1 (fun ad h0 h1 e => by injection e with e; exact hR.blk.apart hb (by decide) ad h0 h1 e.symm)
              clear hR hB hb hg1
              go_wp2_with fail
              refine (u16_any hR1 hBL).mono ?_
              rintro e y2 ⟨rfl, hR2, hg2⟩
              have N2' := N2.out
              simp only [Int.cast_ofNat_Int] at N2'
              rw [N2'] at hR2 ⊢
              simp only [v2.out] at hR2 ⊢
              clear N2'
              have hB2 := hB1.trans (below_of_only hg2 hgw hB1.size)
              have hb2 := hb1.grown hg2 (fun ad h0 h1 e => by injection e with e; exact hR1.blk.apart hb1 (by decide) ad h0 h1 e.symm)
              clear hR1 hB1 hb1 hg2
              go_wp2_with fail
              refine (u32_any hR2 hBL).mono ?_
              rintro e y3 ⟨rfl, hR3, hg3⟩
              have N3' := N3.out
              simp only [Int.cast_ofNat_Int] at N3'
              rw [N3'] at hR3 ⊢
              simp only [v3.out] at hR3 ⊢
              clear N3'
              have hB3 := hB2.trans (below_of_only hg3 hgw hB2.size)
              have hb3 := hb2.grown hg3 (fun ad h0 h1 e => by injection e with e; exact hR2.blk.apart hb2 (by decide) ad h0 h1 e.symm)
              clear hR2 hB2 hb2 hg3
              go_wp2_with fail
              refine (u64_any hR3 hBL).mono ?_
              rintro e y4 ⟨rfl, hR4, hg4⟩
              have N4' := N4.out
              simp only [Int.cast_ofNat_Int] at N4'
              rw [N4'] at hR4 ⊢
              simp only [v4.out] at hR4 ⊢
              clear N4'
              have hB4 := hB3.trans (below_of_only hg4 hgw hB3.size)
              have hb4 := hb3.grown hg4 (fun ad h0 h1 e => by injection e with e; exact hR3.blk.apart hb3 (by decide) ad h0 h1 e.symm)
              clear hR3 hB3 hb3 hg4
              go_wp2
              go_roundw
              case rel => exact ⟨j + 1, by omega, by go_num, by rw [show 15 * (j + 1) = 15 * j + 1 + 2 + 4 + 8 by omega]; exact hR4, hB4, hb4⟩
              case measure => simp [intOf]; omega
            · have hjN : j = n := by omega
              have hlen2 : len = 15 * j := by
                have h1 := HBL.out
                have h2 := Hbl.out
                have h3 := HE.out
                have h4 := HLL.out
                rw [List.length_append] at h1
                omega
              have HJ := Lib.hid hlen2
              have hd : (encS L ++ b).drop (15 * j) = b := by
                rw [List.drop_left' (by rw [HE.out, HLL.out, hjN])]
              have N1 := Lib.hid (next_all hd Hbl.out (by rw [HBL.out]; omega))
              have N2 : Hid (goS (encS L ++ b) (15 * j + n2) 0 (-((len : Int) + n2)) = (0, 0)) := by
                unfold Hid goS
                have := HBL.out
                rw [if_neg (by omega), if_neg (by omega)]
                simp
                omega
              have hz1 : ((len : Int) + n2 - (15 * j + n2 : Nat) != 0) = false := by simp; omega
              have hz2 : (((15 * j + n2 : Nat) : Int) != (len : Int) + n2) = false := by simp; omega
              have hz3 : ((15 * j : Nat) : Int) = (len : Int) := by omega
              have hnj : ¬ (j : Int) < n := by omega
              clear hjl hjN hlen2 hd
              go_wp2_with fail
              refine (raw_any hR n2).mono ?_
              rintro e y1 ⟨A6, n6, c6, rfl, hR1, ho6, hg1⟩
              rw [N1.out] at hR1 ho6
              simp only at hR1 ho6
              have hB1 := hB.trans (below_of_only hg1 hgw hB.size)
              have hb1 := hb.grown hg1 (fun ad h0 h1 e => by injection e with e; exact hR.blk.apart hb (by decide) ad h0 h1 e.symm)
              clear hR hB hb hg1
              go_wp2_with fail
              refine (bytesEqual_any A6 A2 n6 c6 n2 c2 _ _ _ (Sees.of_own ho6) hb1 hBr hBr).mono ?_
              rintro e y2 ⟨rfl, rfl⟩
              rw [eqB_true rfl]
              go_wp2_with fail
              refine (left_any hR1).mono ?_
              rintro e y2 ⟨rfl, q2, rfl⟩
              rw [show (((len + n2 : Nat) : Int) - (15 * j + n2 : Nat)) = 0 from by have := HJ.out; omega]
              go_wp2_with fail
              refine (at_any (hR1.drewN _)).mono ?_
              rintro e y2 ⟨rfl, rfl⟩
              rw [show ((15 * j + n2 : Nat) : Int) = (len : Int) + n2 from by have := HJ.out; omega]
              go_wp2_with fail
              refine (err_any (hR1.drewN _)).mono ?_
              rintro e y2 ⟨rfl, rfl⟩
              go_wp2_with fail
              refine (go_any (hR1.drewN _) _).mono ?_
              rintro e y3 ⟨rfl, hR3, hg3⟩
              rw [N2.out] at hR3
              have hB3 := (below_drewN hB1 q2).trans (below_of_only hg3 hgw hB1.size)
              have hb3 := (hb1.drewN q2).grown hg3 (fun ad h0 h1 e => by injection e with e; exact hR1.blk.apart hb1 (by decide) ad h0 h1 e.symm)
              clear hR1 ho6 hB1 hb1 hg3
              go_wp2_with fail
              refine (at_any hR3).mono ?_
              rintro e y4 ⟨rfl, rfl⟩
              go_wp2_with fail
              refine (left_any hR3).mono ?_
              rintro e y4 ⟨rfl, q4, rfl⟩
              go_wp2
              go_roundw
              case rel => exact ⟨.inr (.inr rfl), hR3.drewN _, below_drewN hB3 _, hb3.drewN _⟩
              case measure => simp [intOf]
        · go_wp2
          go_ret
          exact ⟨rfl, hB⟩

set_option maxRecDepth 100000 in
set_option maxHeartbeats 3200000 in
theorem walkB (w : World) (A : Option Addr) (n c : Nat) (l : List Int) (w0 : Row w .u64 A n c l) (B : Option Addr) (m d : Nat) (r : List Int) (w1 : Row w .u8 B m d r) (hcase : 20 < n) :
    Calls Try.prog 9 #[.slice A n c, .slice B m d] w fun e w' => e = .returned (.bool true) ∧ Below w.heap.size w w' := by
  have hcn : c ≤ 9223372036854775807 := by have h2 := w0.small; unfold maxLen at h2; omega
  have hnc := w0.nc
  have hBr : isB (r.take 300) := isB.take (wf_u8 w1.wf) _
  have hll : l.length = n := w0.sees.len
  have hLL : (l.take 20).length = 20 := by rw [List.length_take]; omega
  have hwf : ∀ x ∈ (l.take 20), 0 ≤ x ∧ x < 18446744073709551616 := fun x hx => by
    have := w0.wf x (List.mem_of_mem_take hx)
    simp [Lit.wf, IntKind.min, IntKind.max, IntKind.signed, IntKind.bits] at this
    omega
  have hsL : Sees w none 1 A 20 (ib .u64 (l.take 20)) := by have := w0.sees.take (k := 20) (by omega); simpa [ib] using this
  obtain ⟨L, HL⟩ : ∃ L, Hid (L = (l.take 20)) := ⟨_, rfl⟩
  rw [← HL.out] at hLL hwf hsL
  have HLL := Lib.hid hLL
  clear w0 hll hLL
  go_enter Try.func9, Try.ntmps9
  go_wp2_with (go_at_call 11; refine (wakes_any w).mono ?_; rintro e x1 ⟨rfl, hb1⟩)
  refine (few_any B m d r x1 (w1.sees.below hb1) w1.nc w1.small).mono ?_
  rintro e x2 ⟨A2, n2, c2, rfl, hn2, ho2, hb2⟩
  have hB2 := hb1.trans (hb2.mono hb1.size)
  obtain ⟨b, Hb⟩ : ∃ b, Hid (b = r.take 300) := ⟨_, rfl⟩
  rw [← Hb.out] at ho2 hBr
  have h2 := Sees.of_own ho2
  have Hbl := Lib.hid h2.len
  clear ho2 hb1 hb2 w1
  go_wp2_with fail
  go_loopw [5, 24] (fun v i wr => ∃ (k len : Nat) (A' : Option Addr) (c' : Nat), k ≤ 20 ∧ len ≤ 15 * k ∧ i = .int .i64 k ∧ v = .slice A' len c' ∧
      wr.ownsRow x2.heap.size 5 1 (.slice A' len c') len (ib .u8 (encS (L.take k))) ∧ Below x2.heap.size x2 wr) (fun _ i _ => 20 - (intOf i).toNat)
  case atStart => exact ⟨0, 0, none, 0, by omega, by omega, rfl, rfl, by simpa [encS, ib] using World.ownsRow_nil x2 _ _ _, Below.refl _ _⟩
  case round =>
    obtain ⟨k, len, A3, c3, hk, hlen, rfl, rfl, ho3, hbr⟩ := hrel
    have hBo := hB2.trans (hbr.mono hB2.size)
    by_cases hlt : k < 20
    · obtain ⟨ad, u, rfl, hu, hc⟩ := (hsL.below hBo).at_ hlt
      obtain ⟨x, hx, rfl⟩ := ib_get hu
      obtain ⟨hx0, hx1⟩ := hwf x (List.mem_of_getElem? hx)
      have HS := Lib.hid (take_snoc hx)
      clear hu hx
      go_wp2_with (at_builtin; refine Door.enter ?_)
      refine Door.leave (wl_append_lit ty_bytes ho3 (m := 1) (k := len + 1) rfl rfl (zs := ib .u8 (encS (L.take k) ++ [x % 256])) (by simp [ib]) (by simp [Value.oneCell']) (by omega) hbr.size rfl rfl rfl rfl ?_)
      intro A4 c4 x4 ho4 hb4 _ _
      have hb4' := hbr.trans hb4
      clear ho3 hb4 hBo
      go_wp2_with fail
      try rw [IntKind.wrap_u16]
      refine (put16_any A4 (len + 1) c4 _ (x % 65536) _ (Sees.of_own ho4) (by omega) (by omega) (by omega)).mono ?_
      rintro e x5 ⟨A5, c5, rfl, ho5, hb5⟩
      have hb5' := hb4'.trans (hb5.mono hb4'.size)
      clear ho4 hb5
      go_wp2_with fail
      try rw [IntKind.wrap_u32]
      refine (put32_any A5 (len + 1 + 2) c5 _ (x % 4294967296) _ (Sees.of_own ho5) (by omega) (by omega) (by omega)).mono ?_
      rintro e x6 ⟨A6, c6, rfl, ho6, hb6⟩
      have hb6' := hb5'.trans (hb6.mono hb5'.size)
      clear ho5 hb6
      go_wp2_with fail
      refine (put64_any A6 (len + 1 + 2 + 4) c6 _ x _ (Sees.of_own ho6) (by omega) (by omega) (by omega)).mono ?_
      rintro e x7 ⟨A7, c7, rfl, ho7, hb7⟩
      have hb7' := hb6'.trans (hb7.mono hb6'.size)
      have ho7' := own_mono ho7 (base' := x2.heap.size) hb6'.size
      rw [← encS_snoc, ← HS.out] at ho7'
      clear ho6 hb7 ho7 hb4' hb5' hb6' hbr
      go_wp2
      go_roundw
      case rel => exact ⟨k + 1, _, A7, c7, by omega, by omega, by go_num, rfl, ho7', hb7'⟩
      case measure => simp [intOf]; omega
    · rw [List.take_of_length_le (by rw [HLL.out]; omega)] at ho3
      have hkk : len ≤ 300 := by omega
      have hkn : ¬ (k : Int) < 20 := by omega
      have h3 := h2.below hbr
      go_wp2_with (at_builtin; refine Door.enter ?_)
      refine Door.leave (wl_append ty_bytes ho3 h3 rfl (zs := ib .u8 (encS L ++ b)) (by simp [ib]) (ib_one _ _) (by omega) hbr.size rfl rfl rfl rfl ?_)
      intro A4 c4 x4 ho4 hb4 _ _
      have hb4' := hbr.trans hb4
      have h4 := h2.below hb4'
      have hs4 := Sees.of_own ho4
      have hnc4 := own_cap ho4
      have hBL : isB (encS L ++ b) := (encS_isB L).append hBr
      have HBL := Lib.hid hs4.len
      have HE := Lib.hid (encS_length L)
      clear ho3 hb4 h3 hbr hBo ho4
      go_wp2_with fail
      refine (read_any (cap := c4) hs4 hnc4.1 (by omega)).mono ?_
      rintro e x5 ⟨g, rfl, hg, hR5, hb5⟩
      have h5 := h4.below hb5
      have hB5 := hB2.trans ((hb4'.trans (hb5.mono hb4'.size)).mono hB2.size)
      have hgg : x2.heap.size ≤ g := Nat.le_trans hb4'.size hg
      have hgw : w.heap.size ≤ g := Nat.le_trans hB2.size hgg
      clear hb4' hb5 h4 hs4 hg hB2 h2
      go_wp2_with fail
      go_loopw [47] (fun i wr => (i = .int .i64 0 ∨ i = .int .i64 1 ∨ i = .int .i64 2) ∧ Rd wr g A4 (len + n2) c4 (encS L ++ b) 0 0 ∧ Below w.heap.size w wr ∧
        Sees wr (some 5) 1 A2 n2 (ib .u8 b)) (fun i _ => (2 - intOf i).toNat)
      case atStart => exact ⟨.inl rfl, hR5, hB5, h5⟩
      case round =>
        clear hR5 hB5 h5
        obtain ⟨hi, hR, hB, hb⟩ := hrel
        obtain ⟨wo, hwo⟩ : ∃ wo : World, wo = wr := ⟨_, rfl⟩
        subst hwo
        rcases hi with rfl | rfl | rfl
        · go_wp2_with fail
          go_loopw [53] (fun i wr => ∃ j : Nat, j ≤ 20 ∧ i = .int .i64 j ∧ Rd wr g A4 (len + n2) c4 (encS L ++ b) (15 * j) 0 ∧ Below w.heap.size w wr ∧
            Sees wr (some 5) 1 A2 n2 (ib .u8 b)) (fun i _ => 20 - (intOf i).toNat)
          case atStart => exact ⟨0, by omega, rfl, hR, hB, hb⟩
          case round =>
            clear hR hB hb
            obtain ⟨j, hj, rfl, hR, hB, hb⟩ := hrel
            by_cases hjl : j < 20
            · obtain ⟨ad, u, rfl, hu, hc⟩ := (hsL.below hB).at_ hjl
              obtain ⟨x, hx, rfl⟩ := ib_get hu
              obtain ⟨hx0, hx1⟩ := hwf x (List.mem_of_getElem? hx)
              obtain ⟨tl, htl⟩ := encS_at L b j x hx
              have e1 : (encS L ++ b).drop (15 * j) = [x % 256] ++ (hiT (x % 65536) 8 2 ++ (hiT (x % 4294967296) 24 4 ++ (hiT x 56 8 ++ tl))) := by rw [htl]; simp [enc1]
              have e2 := drop_more (j := 1) e1 rfl
              have e3 := drop_more (j := 2) e2 (hiT_length _ _ _)
              have e4 := drop_more (j := 4) e3 (hiT_length _ _ _)
              have N1 := Lib.hid (next_at (j := 1) e1 rfl (by omega))
              have N2 := Lib.hid (next_at (j := 2) e2 (hiT_length _ _ _) (by omega))
              have N3 := Lib.hid (next_at (j := 4) e3 (hiT_length _ _ _) (by omega))
              have N4 := Lib.hid (next_at (j := 8) e4 (hiT_length _ _ _) (by omega))
              have v2 := Lib.hid (numS_hi16 (x % 65536) (by omega) (by omega))
              have v3 := Lib.hid (numS_hi32 (x % 4294967296) (by omega) (by omega))
              have v4 := Lib.hid (numS_hi64 x hx0 hx1)
              have v1 : Hid (numS [x % 256] = x % 256) := by unfold Hid; simp [numS]
              have t2 : (x % 65536 != IntKind.u16.wrap x) = false := by rw [IntKind.wrap_u16]; simp
              have t3 : (x % 4294967296 != IntKind.u32.wrap x) = false := by rw [IntKind.wrap_u32]; simp
              clear hu hx htl e1 e2 e3 e4
              go_wp2_with fail
              refine (u8_any hR hBL).mono ?_
              rintro e y1 ⟨rfl, hR1, hg1⟩
              have N1' := N1.out
              simp only [Int.cast_ofNat_Int] at N1'
              rw [N1'] at hR1 ⊢
              simp only [v1.out] at hR1 ⊢
              clear N1'
              have hB1 := hB.trans (below_of_only hg1 hgw hB.size)
              have hb1 := hb.grown hg1 (fun ad h0 h1 e => by injection e with e; exact hR.blk.apart hb (by decide) ad h0 h1 e.symm)
              clear hR hB hb hg1
              go_wp2_with fail
              refine (u16_any hR1 hBL).mono ?_
              rintro e y2 ⟨rfl, hR2, hg2⟩
              have N2' := N2.out
              simp only [Int.cast_ofNat_Int] at N2'
              rw [N2'] at hR2 ⊢
              simp only [v2.out] at hR2 ⊢
              clear N2'
              have hB2 := hB1.trans (below_of_only hg2 hgw hB1.size)
              have hb2 := hb1.grown hg2 (fun ad h0 h1 e => by injection e with e; exact hR1.blk.apart hb1 (by decide) ad h0 h1 e.symm)
              clear hR1 hB1 hb1 hg2
              go_wp2_with fail
              refine (u32_any hR2 hBL).mono ?_
              rintro e y3 ⟨rfl, hR3, hg3⟩
              have N3' := N3.out
              simp only [Int.cast_ofNat_Int] at N3'
              rw [N3'] at hR3 ⊢
              simp only [v3.out] at hR3 ⊢
              clear N3'
              have hB3 := hB2.trans (below_of_only hg3 hgw hB2.size)
              have hb3 := hb2.grown hg3 (fun ad h0 h1 e => by injection e with e; exact hR2.blk.apart hb2 (by decide) ad h0 h1 e.symm)
              clear hR2 hB2 hb2 hg3
              go_wp2_with fail
              refine (u64_any hR3 hBL).mono ?_
              rintro e y4 ⟨rfl, hR4, hg4⟩
              have N4' := N4.out
              simp only [Int.cast_ofNat_Int] at N4'
              rw [N4'] at hR4 ⊢
              simp only [v4.out] at hR4 ⊢
              clear N4'
              have hB4 := hB3.trans (below_of_only hg4 hgw hB3.size)
              have hb4 := hb3.grown hg4 (fun ad h0 h1 e => by injection e with e; exact hR3.blk.apart hb3 (by decide) ad h0 h1 e.symm)
              clear hR3 hB3 hb3 hg4
              go_wp2
              go_roundw
              case rel => exact ⟨j + 1, by omega, by go_num, by rw [show 15 * (j + 1) = 15 * j + 1 + 2 + 4 + 8 by omega]; exact hR4, hB4, hb4⟩
              case measure => simp [intOf]; omega
            · have hjN : j = 20 := by omega
              have hlen2 : len = 15 * j := by
                have h1 := HBL.out
                have h2 := Hbl.out
                have h3 := HE.out
                have h4 := HLL.out
                rw [List.length_append] at h1
                omega
              have HJ := Lib.hid hlen2
              have hd : (encS L ++ b).drop (15 * j) = b := by
                rw [List.drop_left' (by rw [HE.out, HLL.out, hjN])]
              have N1 := Lib.hid (next_all hd Hbl.out (by rw [HBL.out]; omega))
              have N2 : Hid (goS (encS L ++ b) (15 * j + n2) 0 (-((len : Int) + n2)) = (0, 0)) := by
                unfold Hid goS
                have := HBL.out
                rw [if_neg (by omega), if_neg (by omega)]
                simp
                omega
              have hz1 : ((len : Int) + n2 - (15 * j + n2 : Nat) != 0) = false := by simp; omega
              have hz2 : (((15 * j + n2 : Nat) : Int) != (len : Int) + n2) = false := by simp; omega
              have hz3 : ((15 * j : Nat) : Int) = (len : Int) := by omega
              have hnj : ¬ (j : Int) < 20 := by omega
              clear hjl hjN hlen2 hd
              go_wp2_with fail
              refine (raw_any hR n2).mono ?_
              rintro e y1 ⟨A6, n6, c6, rfl, hR1, ho6, hg1⟩
              rw [N1.out] at hR1 ho6
              simp only at hR1 ho6
              have hB1 := hB.trans (below_of_only hg1 hgw hB.size)
              have hb1 := hb.grown hg1 (fun ad h0 h1 e => by injection e with e; exact hR.blk.apart hb (by decide) ad h0 h1 e.symm)
              clear hR hB hb hg1
              go_wp2_with fail
              refine (bytesEqual_any A6 A2 n6 c6 n2 c2 _ _ _ (Sees.of_own ho6) hb1 hBr hBr).mono ?_
              rintro e y2 ⟨rfl, rfl⟩
              rw [eqB_true rfl]
              go_wp2_with fail
              refine (left_any hR1).mono ?_
              rintro e y2 ⟨rfl, q2, rfl⟩
              rw [show (((len + n2 : Nat) : Int) - (15 * j + n2 : Nat)) = 0 from by have := HJ.out; omega]
              go_wp2_with fail
              refine (at_any (hR1.drewN _)).mono ?_
              rintro e y2 ⟨rfl, rfl⟩
              rw [show ((15 * j + n2 : Nat) : Int) = (len : Int) + n2 from by have := HJ.out; omega]
              go_wp2_with fail
              refine (err_any (hR1.drewN _)).mono ?_
              rintro e y2 ⟨rfl, rfl⟩
              go_wp2_with fail
              refine (go_any (hR1.drewN _) _).mono ?_
              rintro e y3 ⟨rfl, hR3, hg3⟩
              rw [N2.out] at hR3
              have hB3 := (below_drewN hB1 q2).trans (below_of_only hg3 hgw hB1.size)
              have hb3 := (hb1.drewN q2).grown hg3 (fun ad h0 h1 e => by injection e with e; exact hR1.blk.apart hb1 (by decide) ad h0 h1 e.symm)
              clear hR1 ho6 hB1 hb1 hg3
              go_wp2_with fail
              refine (at_any hR3).mono ?_
              rintro e y4 ⟨rfl, rfl⟩
              go_wp2_with fail
              refine (left_any hR3).mono ?_
              rintro e y4 ⟨rfl, q4, rfl⟩
              go_wp2
              go_roundw
              case rel => exact ⟨.inr (.inl rfl), hR3.drewN _, below_drewN hB3 _, hb3.drewN _⟩
              case measure => simp [intOf]
        · go_wp2_with fail
          go_loopw [53] (fun i wr => ∃ j : Nat, j ≤ 20 ∧ i = .int .i64 j ∧ Rd wr g A4 (len + n2) c4 (encS L ++ b) (15 * j) 0 ∧ Below w.heap.size w wr ∧
            Sees wr (some 5) 1 A2 n2 (ib .u8 b)) (fun i _ => 20 - (intOf i).toNat)
          case atStart => exact ⟨0, by omega, rfl, hR, hB, hb⟩
          case round =>
            clear hR hB hb
            obtain ⟨j, hj, rfl, hR, hB, hb⟩ := hrel
            by_cases hjl : j < 20
            · obtain ⟨ad, u, rfl, hu, hc⟩ := (hsL.below hB).at_ hjl
              obtain ⟨x, hx, rfl⟩ := ib_get hu
              obtain ⟨hx0, hx1⟩ := hwf x (List.mem_of_getElem? hx)
              obtain ⟨tl, htl⟩ := encS_at L b j x hx
              have e1 : (encS L ++ b).drop (15 * j) = [x % 256] ++ (hiT (x % 65536) 8 2 ++ (hiT (x % 4294967296) 24 4 ++ (hiT x 56 8 ++ tl))) := by rw [htl]; simp [enc1]
              have e2 := drop_more (j := 1) e1 rfl
              have e3 := drop_more (j := 2) e2 (hiT_length _ _ _)
              have e4 := drop_more (j := 4) e3 (hiT_length _ _ _)
              have N1 := Lib.hid (next_at (j := 1) e1 rfl (by omega))
              have N2 := Lib.hid (next_at (j := 2) e2 (hiT_length _ _ _) (by omega))
              have N3 := Lib.hid (next_at (j := 4) e3 (hiT_length _ _ _) (by omega))
              have N4 := Lib.hid (next_at (j := 8) e4 (hiT_length _ _ _) (by omega))
              have v2 := Lib.hid (numS_hi16 (x % 65536) (by omega) (by omega))
              have v3 := Lib.hid (numS_hi32 (x % 4294967296) (by omega) (by omega))
              have v4 := Lib.hid (numS_hi64 x hx0 hx1)
              have v1 : Hid (numS [x % 256] = x % 256) := by unfold Hid; simp [numS]
              have t2 : (x % 65536 != IntKind.u16.wrap x) = false := by rw [IntKind.wrap_u16]; simp
              have t3 : (x % 4294967296 != IntKind.u32.wrap x) = false := by rw [IntKind.wrap_u32]; simp
              clear hu hx htl e1 e2 e3 e4
              go_wp2_with fail
              refine (u8_any hR hBL).mono ?_
              rintro e y1 ⟨rfl, hR1, hg1⟩
              have N1' := N1.out
              simp only [Int.cast_ofNat_Int] at N1'
              rw [N1'] at hR1 ⊢
              simp only [v1.out] at hR1 ⊢
              clear N1'
              have hB1 := hB.trans (below_of_only hg1 hgw hB.size)
              have hb1 := hb.grown hg1 (fun ad h0 h1 e => by injection e with e; exact hR.blk.apart hb (by decide) ad h0 h1 e.symm)
              clear hR hB hb hg1
              go_wp2_with fail
              refine (u16_any hR1 hBL).mono ?_
              rintro e y2 ⟨rfl, hR2, hg2⟩
              have N2' := N2.out
              simp only [Int.cast_ofNat_Int] at N2'
              rw [N2'] at hR2 ⊢
              simp only [v2.out] at hR2 ⊢
              clear N2'
              have hB2 := hB1.trans (below_of_only hg2 hgw hB1.size)
              have hb2 := hb1.grown hg2 (fun ad h0 h1 e => by injection e with e; exact hR1.blk.apart hb1 (by decide) ad h0 h1 e.symm)
              clear hR1 hB1 hb1 hg2
              go_wp2_with fail
              refine (u32_any hR2 hBL).mono ?_
              rintro e y3 ⟨rfl, hR3, hg3⟩
              have N3' := N3.out
              simp only [Int.cast_ofNat_Int] at N3'
              rw [N3'] at hR3 ⊢
              simp only [v3.out] at hR3 ⊢
              clear N3'
              have hB3 := hB2.trans (below_of_only hg3 hgw hB2.size)
              have hb3 := hb2.grown hg3 (fun ad h0 h1 e => by injection e with e; exact hR2.blk.apart hb2 (by decide) ad h0 h1 e.symm)
              clear hR2 hB2 hb2 hg3
              go_wp2_with fail
              refine (u64_any hR3 hBL).mono ?_
              rintro e y4 ⟨rfl, hR4, hg4⟩
              have N4' := N4.out
              simp only [Int.cast_ofNat_Int] at N4'
              rw [N4'] at hR4 ⊢
              simp only [v4.out] at hR4 ⊢
              clear N4'
              have hB4 := hB3.trans (below_of_only hg4 hgw hB3.size)
              have hb4 := hb3.grown hg4 (fun ad h0 h1 e => by injection e with e; exact hR3.blk.apart hb3 (by decide) ad h0 h1 e.symm)
              clear hR3 hB3 hb3 hg4
              go_wp2
              go_roundw
              case rel => exact ⟨j + 1, by omega, by go_num, by rw [show 15 * (j + 1) = 15 * j + 1 + 2 + 4 + 8 by omega]; exact hR4, hB4, hb4⟩
              case measure => simp [intOf]; omega
            · have hjN : j = 20 := by omega
              have hlen2 : len = 15 * j := by
                have h1 := HBL.out
                have h2 := Hbl.out
                have h3 := HE.out
                have h4 := HLL.out
                rw [List.length_append] at h1
                omega
              have HJ := Lib.hid hlen2
              have hd : (encS L ++ b).drop (15 * j) = b := by
                rw [List.drop_left' (by rw [HE.out, HLL.out, hjN])]
              have N1 := Lib.hid (next_all hd Hbl.out (by rw [HBL.out]; omega))
              have N2 : Hid (goS (encS L ++ b) (15 * j + n2) 0 (-((len : Int) + n2)) = (0, 0)) := by
                unfold Hid goS
                have := HBL.out
                rw [if_neg (by omega), if_neg (by omega)]
                simp
                omega
              have hz1 : ((len : Int) + n2 - (15 * j + n2 : Nat) != 0) = false := by simp; omega
              have hz2 : (((15 * j + n2 : Nat) : Int) != (len : Int) + n2) = false := by simp; omega
              have hz3 : ((15 * j : Nat) : Int) = (len : Int) := by omega
              have hnj : ¬ (j : Int) < 20 := by omega
              clear hjl hjN hlen2 hd
              go_wp2_with fail
              refine (raw_any hR n2).mono ?_
              rintro e y1 ⟨A6, n6, c6, rfl, hR1, ho6, hg1⟩
              rw [N1.out] at hR1 ho6
              simp only at hR1 ho6
              have hB1 := hB.trans (below_of_only hg1 hgw hB.size)
              have hb1 := hb.grown hg1 (fun ad h0 h1 e => by injection e with e; exact hR.blk.apart hb (by decide) ad h0 h1 e.symm)
              clear hR hB hb hg1
              go_wp2_with fail
              refine (bytesEqual_any A6 A2 n6 c6 n2 c2 _ _ _ (Sees.of_own ho6) hb1 hBr hBr).mono ?_
              rintro e y2 ⟨rfl, rfl⟩
              rw [eqB_true rfl]
              go_wp2_with fail
              refine (left_any hR1).mono ?_
              rintro e y2 ⟨rfl, q2, rfl⟩
              rw [show (((len + n2 : Nat) : Int) - (15 * j + n2 : Nat)) = 0 from by have := HJ.out; omega]
              go_wp2_with fail
              refine (at_any (hR1.drewN _)).mono ?_
              rintro e y2 ⟨rfl, rfl⟩
              rw [show ((15 * j + n2 : Nat) : Int) = (len : Int) + n2 from by have := HJ.out; omega]
              go_wp2_with fail
              refine (err_any (hR1.drewN _)).mono ?_
              rintro e y2 ⟨rfl, rfl⟩
              go_wp2_with fail
              refine (go_any (hR1.drewN _) _).mono ?_
              rintro e y3 ⟨rfl, hR3, hg3⟩
              rw [N2.out] at hR3
              have hB3 := (below_drewN hB1 q2).trans (below_of_only hg3 hgw hB1.size)
              have hb3 := (hb1.drewN q2).grown hg3 (fun ad h0 h1 e => by injection e with e; exact hR1.blk.apart hb1 (by decide) ad h0 h1 e.symm)
              clear hR1 ho6 hB1 hb1 hg3
              go_wp2_with fail
              refine (at_any hR3).mono ?_
              rintro e y4 ⟨rfl, rfl⟩
              go_wp2_with fail
              refine (left_any hR3).mono ?_
              rintro e y4 ⟨rfl, q4, rfl⟩
              go_wp2
              go_roundw
              case rel => exact ⟨.inr (.inr rfl), hR3.drewN _, below_drewN hB3 _, hb3.drewN _⟩
              case measure => simp [intOf]
        · go_wp2
          go_ret
          exact ⟨rfl, hB⟩

theorem walk (w : World) (A : Option Addr) (n c : Nat) (l : List Int) (w0 : Row w .u64 A n c l) (B : Option Addr) (m d : Nat) (r : List Int) (w1 : Row w .u8 B m d r) :
    Calls Try.prog 9 #[.slice A n c, .slice B m d] w fun e w' => e = .returned (.bool true) ∧ Below w.heap.size w w' := by
  by_cases h : n ≤ 20
  · exact walkA w A n c l w0 B m d r w1 h
  · exact walkB w A n c l w0 B m d r w1 (by omega)
end Go.Proofs.Ytnlgdcoeooppnaa.octetBack
