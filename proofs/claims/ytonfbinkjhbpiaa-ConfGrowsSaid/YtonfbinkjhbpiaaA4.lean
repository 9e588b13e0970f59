/- How far more than half are: of members that may not be, by the reference, and that both say one thing. No condition. -/
import Derived.Test.YtonfbinkjhbpiaaA2
namespace Go.Proofs.Ytonfbinkjhbpiaa
open Go.RowKit Go.Shelf
set_option linter.unusedVariables false
set_option linter.unusedSimpArgs false

set_option maxHeartbeats 400000 in
theorem agreed_any {e1 e2 : Option TypeId} (A : Option Addr) (n c : Nat) (l : List Int) (B : Option Addr) (m d : Nat) (ps : List (Int × Int)) (w : World) (hs : Sees w e1 1 A n (ib .i64 l)) (hn : n ≤ 1000000000000)
    (hp : Sees w e2 2 B m (pm ps)) (hm : m ≤ 1000000000000) :
    Calls Try.prog 34 #[cf A n c, .slice B m d] w fun e w' => e = .returned (.int .u64 (agreedN (askX l) ps)) ∧ Below w.heap.size w w' := by
  cases hr : rightB l with
  | true => exact agreed_right A n c l B m d ps w hs hn hp hm hr
  | false =>
    have hE := Lib.hid (askE_wrong hr)
    have hX := Lib.hid (askX_wrong hr)
    clear hr
    rw [hX.out, agreedN_zero]
    have HB := Lib.hid ((Below.refl _ w).alloc (Nat.le_refl _) (.cells #[.slice A n c] 27))
    have hs1 := hs.alloc (.cells #[.slice A n c] 27)
    refine (callsIn_wide (n := 8)).1 ?_
    refine callsIn_of_wp_marks Try.func34 rfl trivial ?_ rfl
    simp only [Try.ntmps34, List.size_toArray, List.length_cons, List.length_nil, Nat.reduceAdd, Nat.reduceSub, Array.replicate_succ, Array.replicate_zero, List.push_toArray, List.append_toArray, List.nil_append, List.cons_append]
    refine wpIn_wide.2 ?_
    go_wp2_with fail
    refine (asked_any A n c l _ hs1 hn).mono ?_
    rw [hE.out, hX.out]
    rintro e w1 ⟨rfl, hb1⟩
    have HB1 := HB.out.trans (hb1.mono HB.out.size)
    go_wp2
    exact ⟨_, results_tmp rfl _ _ _, rfl, HB1.alloc HB1.size _⟩

/-- How far one is, by the matches. -/
def comeN (ps : List (Int × Int)) (M : Int) : Int := ps.foldl (fun f p => if p.1 = M ∧ f < p.2 then p.2 else f) 0
theorem comeN_snoc (ps : List (Int × Int)) (p : Int × Int) (M : Int) : comeN (ps ++ [p]) M = if p.1 = M ∧ comeN ps M < p.2 then p.2 else comeN ps M := by
  unfold comeN
  rw [List.foldl_append]
  rfl

set_option maxHeartbeats 800000 in
theorem rcome_any {e2 : Option TypeId} (B : Option Addr) (m d : Nat) (ps : List (Int × Int)) (M : Int) (w : World) (hp : Sees w e2 2 B m (pm ps)) (hm : m ≤ 1000000000000) :
    Calls Try.prog 48 #[.slice B m d, .int .i64 M] w fun e w' => e = .returned (.int .u64 (comeN ps M)) ∧ Below w.heap.size w w' := by
  have HPL := Lib.hid (pm_len ps)
  go_enter Try.func48, Try.ntmps48
  go_wp2
  go_loopw [5, 10] (fun f i wr => ∃ k : Nat, k ≤ m ∧ i = .int .i64 k ∧ f = .int .u64 (comeN (ps.take k) M) ∧ Below w.heap.size w wr) (fun _ i _ => m - (intOf i).toNat)
  case atStart => exact ⟨0, by omega, rfl, rfl, Below.refl _ _⟩
  case round =>
    obtain ⟨k, hk, rfl, rfl, hB⟩ := hrel
    by_cases hlt : k < m
    · obtain ⟨ad, p, rfl, hpk, hc0, hc1⟩ := (hp.below hB).pair hlt
      have HS := Lib.hid (take_snoc hpk)
      have HC := Lib.hid (comeN_snoc (ps.take k) p M)
      clear hpk
      obtain ⟨f, hf⟩ : ∃ f, f = comeN (ps.take k) M := ⟨_, rfl⟩
      have HF := Lib.hid hf
      rw [← hf]
      clear hf
      have q9 := Blk.new wr 60 #[.int .i64 p.1, .int .u64 p.2]
      have hB' := hB.alloc hB.size (.cells #[.int .i64 p.1, .int .u64 p.2] 60)
      have c9 := q9.cell 0
      have c91 := q9.cell 1
      simp at c9 c91
      by_cases h1 : p.1 = M
      · have h1b : (p.1 == M) = true := by simp [h1]
        have H1 := Lib.hid h1
        clear h1
        by_cases h2 : f < p.2
        · go_wp2
          go_roundw
          case rel => exact ⟨k + 1, by omega, by go_num, by rw [HS.out, HC.out, ← HF.out, if_pos ⟨H1.out, h2⟩], hB'⟩
          case measure => simp [intOf]; omega
        · go_wp2
          go_roundw
          case rel => exact ⟨k + 1, by omega, by go_num, by rw [HS.out, HC.out, ← HF.out, if_neg (fun h => by omega)], hB'⟩
          case measure => simp [intOf]; omega
      · have h1b : (p.1 == M) = false := by simp [h1]
        have H1 := Lib.hid h1
        clear h1
        go_wp2
        go_roundw
        case rel => exact ⟨k + 1, by omega, by go_num, by rw [HS.out, HC.out, ← HF.out, if_neg (fun h => H1.out h.1)], hB'⟩
        case measure => simp [intOf]; omega
    · obtain rfl : k = m := by omega
      go_wp2
      go_ret
      exact ⟨ret_int (by rw [take_all (by have h1 := hp.1; have h2 := HPL.out; omega)]), hB⟩

/-- Who is as far, and how far more than half are. -/
def setN (l : List Int) (ps : List (Int × Int)) (far : Int) : List Int := l.filter fun x => decide (far ≤ comeN ps x)
theorem setN_hit (l : List Int) (ps : List (Int × Int)) (far x : Int) (h : far ≤ comeN ps x) : setN (l ++ [x]) ps far = setN l ps far ++ [x] := by
  unfold setN
  rw [List.filter_append, List.filter_cons_of_pos (by simpa using h), List.filter_nil]
theorem setN_miss (l : List Int) (ps : List (Int × Int)) (far x : Int) (h : comeN ps x < far) : setN (l ++ [x]) ps far = setN l ps far := by
  unfold setN
  rw [List.filter_append, List.filter_cons_of_neg (by simp; omega), List.filter_nil, List.append_nil]
def ragN (l : List Int) (ps : List (Int × Int)) (pre : List Int) : Int := pre.foldl (fun b m => if rmajB l (setN l ps (comeN ps m)) = true ∧ b < comeN ps m then comeN ps m else b) 0
theorem ragN_snoc (l : List Int) (ps : List (Int × Int)) (pre : List Int) (m : Int) : ragN l ps (pre ++ [m]) = if rmajB l (setN l ps (comeN ps m)) = true ∧ ragN l ps pre < comeN ps m then comeN ps m else ragN l ps pre := by
  unfold ragN
  rw [List.foldl_append]
  rfl

set_option maxRecDepth 100000 in
set_option maxHeartbeats 1600000 in
theorem ragreed_any {e1 e2 : Option TypeId} (A : Option Addr) (n c : Nat) (l : List Int) (B : Option Addr) (m d : Nat) (ps : List (Int × Int)) (w : World) (hs : Sees w e1 1 A n (ib .i64 l)) (hn : n ≤ 1000000)
    (hp : Sees w e2 2 B m (pm ps)) (hm : m ≤ 1000000000000) :
    Calls Try.prog 33 #[cf A n c, .slice B m d] w fun e w' => e = .returned (.int .u64 (ragN l ps l)) ∧ Below w.heap.size w w' := by
  have HL := Lib.hid hs.len
  have hs1 := hs.alloc (.cells #[.slice A n c] 27)
  have hp1 := hp.alloc (.cells #[.slice A n c] 27)
  have HB := Lib.hid ((Below.refl _ w).alloc (Nat.le_refl _) (.cells #[.slice A n c] 27))
  have k2 := Blk.new w 27 #[.slice A n c]
  have HK2 := Lib.hid k2
  clear k2
  go_enter Try.func33, Try.ntmps33
  go_wp2
  obtain ⟨w1, hw1⟩ : ∃ w1, w.alloc (.cells #[.slice A n c] 27) = w1 := ⟨_, rfl⟩
  rw [hw1] at hs1 hp1 HB HK2 ⊢
  clear hw1
  go_loopw [5, 15] (fun b i wr => ∃ k : Nat, k ≤ n ∧ i = .int .i64 k ∧ b = .int .u64 (ragN l ps (l.take k)) ∧ Below w1.heap.size w1 wr) (fun _ i _ => n - (intOf i).toNat)
  case atStart => exact ⟨0, by omega, rfl, rfl, Below.refl _ _⟩
  case round =>
    obtain ⟨k, hk, rfl, rfl, hB⟩ := hrel
    by_cases hlt : k < n
    · obtain ⟨ad, u, rfl, hu, hc⟩ := (hs1.below hB).at_ hlt
      obtain ⟨v, hv, rfl⟩ := ib_get hu
      have HS := Lib.hid (take_snoc hv)
      have HR := Lib.hid (ragN_snoc l ps (l.take k) v)
      clear hv hu
      obtain ⟨b, hb⟩ : ∃ b, b = ragN l ps (l.take k) := ⟨_, rfl⟩
      have HBB := Lib.hid hb
      rw [← hb]
      clear hb
      go_wp2_with fail
      refine (rcome_any B m d ps v _ (hp1.below hB) hm).mono ?_
      rintro e w3 ⟨rfl, hb3⟩
      have hB3 := hB.trans (hb3.mono hB.size)
      have q2 := HK2.out.below hB3
      have c2 := q2.cell 0
      simp at c2
      obtain ⟨far, hfar⟩ : ∃ far, far = comeN ps v := ⟨_, rfl⟩
      have HFAR := Lib.hid hfar
      rw [← hfar]
      clear hfar
      go_wp2_with fail
      obtain ⟨wo, rfl⟩ : ∃ wo : World, wo = wr := ⟨_, rfl⟩
      go_loopw [9, 25] (fun s i wr => ∃ (j : Nat) (A' : Option Addr) (q c' : Nat), j ≤ n ∧ i = .int .i64 j ∧ s = .slice A' q c' ∧ q ≤ j ∧ wr.ownsRow w3.heap.size 3 1 (.slice A' q c') q (ib .i64 (setN (l.take j) ps far)) ∧ Below w3.heap.size w3 wr)
        (fun _ i _ => n - (intOf i).toNat)
      case atStart => exact ⟨0, none, 0, 0, by omega, rfl, rfl, by omega, World.ownsRow_nil _ _ _ _, Below.refl _ _⟩
      case round =>
        obtain ⟨j, A', q, c', hj, rfl, rfl, hq, hown, hBj⟩ := hrel
        obtain ⟨wi, rfl⟩ : ∃ wi : World, wi = wr := ⟨_, rfl⟩
        by_cases hltj : j < n
        · obtain ⟨ad2, u2, had2, hu2, hc3⟩ := ((hs1.below hB3).below hBj).at_ hltj
          obtain rfl := Option.some.inj had2
          obtain ⟨y, hy, rfl⟩ := ib_get hu2
          have HSj := Lib.hid (take_snoc hy)
          clear hy hu2 had2
          go_wp2_with fail
          refine (rcome_any B m d ps y _ ((hp1.below hB3).below hBj) hm).mono ?_
          rintro e w4 ⟨rfl, hb4⟩
          have hB4 := hBj.trans (hb4.mono hBj.size)
          have hown4 := own_below hown hb4
          by_cases hge : far ≤ comeN ps y
          · have HG := Lib.hid hge
            go_wp2_with (at_builtin; refine Door.enter ?_)
            refine Door.leave (wl_append_lit ty_ints hown4 (m := 1) (k := q + 1) rfl rfl (ib_snoc _ _ _) (by simp [Value.oneCell']) (by omega) hB4.size rfl rfl rfl rfl ?_)
            intro A3 c3' w5 hown3 hb5 hg3 _
            go_wp2
            go_roundw
            case rel => exact ⟨j + 1, A3, q + 1, c3', by omega, by go_num, rfl, by omega, by rw [HSj.out, setN_hit _ _ _ _ HG.out]; exact hown3, hB4.trans hb5⟩
            case measure => simp [intOf]; omega
          · have HG : Hid (comeN ps y < far) := by unfold Hid; omega
            go_wp2
            go_roundw
            case rel => exact ⟨j + 1, A', q, c', by omega, by go_num, rfl, by omega, by rw [HSj.out, setN_miss _ _ _ _ HG.out]; exact hown4, hB4⟩
            case measure => simp [intOf]; omega
        · obtain rfl : j = n := by omega
          rw [take_all (by have := HL.out; omega)] at hown
          have q2' := q2.below hBj
          clear c2
          have c2 := q2'.cell 0
          simp at c2
          go_wp2_with fail
          refine (rmajority_any (some ad) A' j c q c' l _ _ ((hs1.below hB3).below hBj) (Sees.of_own hown) (by omega) (by omega)).mono ?_
          rintro e w5 ⟨rfl, hb5⟩
          have hB5 := (hB3.trans (hBj.mono hB3.size)).trans (hb5.mono (Nat.le_trans hB3.size hBj.size))
          cases hmj : rmajB l (setN l ps far) with
          | true =>
            have HM := Lib.hid hmj
            clear hmj
            by_cases hbf : b < far
            · go_wp2
              go_roundw
              case rel => exact ⟨k + 1, by omega, by go_num, by rw [HS.out, HR.out, ← HBB.out, ← HFAR.out, if_pos ⟨HM.out, hbf⟩], hB5⟩
              case measure => simp [intOf]; omega
            · go_wp2
              go_roundw
              case rel => exact ⟨k + 1, by omega, by go_num, by rw [HS.out, HR.out, ← HBB.out, ← HFAR.out, if_neg (fun h => by omega)], hB5⟩
              case measure => simp [intOf]; omega
          | false =>
            have HM := Lib.hid hmj
            clear hmj
            go_wp2
            go_roundw
            case rel => exact ⟨k + 1, by omega, by go_num, by rw [HS.out, HR.out, ← HBB.out, ← HFAR.out, if_neg (fun h => by rw [HM.out] at h; cases h.1)], hB5⟩
            case measure => simp [intOf]; omega
    · obtain rfl : k = n := by omega
      go_wp2
      go_ret
      exact ⟨ret_int (by rw [take_all (by have := HL.out; omega)]), HB.out.trans (hB.mono HB.out.size)⟩
end Go.Proofs.Ytonfbinkjhbpiaa
