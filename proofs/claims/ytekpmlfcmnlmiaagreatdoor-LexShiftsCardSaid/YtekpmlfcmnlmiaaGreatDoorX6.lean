/- A text's tokens. Condition: what the package-level variables hold. -/
import Derived.Test.YtekpmlfcmnlmiaaGreatDoorX5
import Derived.Test.YtekpmlfcmnlmiaaGreatDoorU22
import Derived.Shelf.Abstract
import Derived.OwnWalkIn
import Derived.TacticsInMore
import Derived.LoopNIn
import Derived.LoopIn
import Derived.RangeFuncBox
import Derived.RangeFuncNested
import Derived.RangeFuncLeaves
namespace Go.Proofs.YtekpmlfcmnlmiaaGreatDoor
open Go.RowKit Go.Shelf
set_option linter.unusedVariables false
set_option linter.unusedSimpArgs false

/-- A token that is yielded: kind, text, number, where it begins and ends; why there is none. -/
structure Yl where
  k : Int
  t : ByteArray
  n : Int
  a : Int
  z : Int
  e : Int
abbrev sufS (s : ByteArray) (a : Nat) : ByteArray := s.extract a s.size
theorem sufS_size {s : ByteArray} {a : Nat} (h : a ≤ s.size) : (sufS s a).size = s.size - a := by simp
theorem bs_suf (s : ByteArray) (a : Nat) : bs (sufS s a) = (bs s).drop a := bs_drop s a
theorem blk_le : ∀ (b : Bool) (l : List UInt8), blk b l ≤ l.length
  | false, [] => by simp [blk]
  | true, [] => by simp [blk]
  | false, c :: l => by
    have h1 := blk_le false l
    have h2 := blk_le true l
    rw [blk]; simp only [List.length_cons]
    split
    · omega
    · split <;> omega
  | true, c :: l => by
    have h1 := blk_le false l
    have h2 := blk_le true l
    rw [blk]; simp only [List.length_cons]
    split <;> omega
theorem quoU_len : ∀ (l : List UInt8) (acc : List Int) (k : Nat) (r : List Int) (m : Nat), quoU l acc k = some (r, m) → k + 1 ≤ m ∧ m ≤ k + l.length
  | [], acc, k, r, m, h => by simp [quoU] at h
  | [c], acc, k, r, m, h => by
    simp only [quoU] at h
    split at h
    · simp at h; obtain ⟨rfl, rfl⟩ := h; simp
    · cases h
  | c :: d :: l, acc, k, r, m, h => by
    rw [quoU] at h
    split at h
    · split at h
      · split at h
        · have := quoU_len l _ _ _ _ h
          simp only [List.length_cons]; omega
        · simp at h; obtain ⟨rfl, rfl⟩ := h; simp
      · have := quoU_len (d :: l) _ _ _ _ h
        simp only [List.length_cons] at this ⊢; omega
    · cases h
theorem numT_len (s : ByteArray) : (numT s).2.2 = 0 → ((numT s).2.1 = (endN isD (bs s) : Int)) := by
  unfold numT
  split
  · split
    · intro _; rfl
    · intro h; cases h
  · intro h; cases h
theorem numT_0 (s : ByteArray) : (numT s).2.2 ≠ 0 → ((numT s).2.1 = 0) := by
  unfold numT
  split
  · split
    · intro h; exact absurd rfl h
    · intro h; rfl
  · intro h; rfl
theorem quoT_len (s : ByteArray) : (quoT s).2.2 = 0 → ∃ m : Nat, (quoT s).2.1 = (m : Int) ∧ 2 ≤ m ∧ m ≤ s.size := by
  unfold quoT
  split
  · rename_i l k h
    have := quoU_len _ _ _ _ _ h
    rw [List.length_drop, bs_len] at this
    split
    · intro _; exact ⟨k, rfl, by omega, by omega⟩
    · intro h; cases h
  · intro h; cases h
theorem quoT_0 (s : ByteArray) : (quoT s).2.2 ≠ 0 → ((quoT s).2.1 = 0) := by
  unfold quoT
  split
  · split
    · intro h; exact absurd rfl h
    · intro h; rfl
  · intro h; rfl
theorem hasP_len : ∀ {l p : List UInt8}, Lib.hasPrefix l p = true → p.length ≤ l.length := by
  intro l p h
  simp only [Lib.hasPrefix, List.isPrefixOf_iff_prefix] at h
  exact h.length_le
theorem sgn_len {s x : ByteArray} (h : sgnO s = some x) : 1 ≤ x.size ∧ x.size ≤ s.size := by
  have h1 := List.find?_some h
  have h2 := List.mem_of_find?_eq_some h
  have h3 := hasP_len h1
  rw [bs_len, bs_len] at h3
  refine ⟨?_, h3⟩
  have : ∀ y ∈ sgns, 1 ≤ y.size := by decide +kernel
  exact this x h2
/-- How long a token is. -/
theorem fir_len {s : ByteArray} (he : (firT s).2.2 = 0) : ∃ m : Nat, (firT s).2.1 = (m : Int) ∧ 1 ≤ m ∧ m ≤ s.size := by
  revert he
  have hw := endN_sz isW s
  have hd := endN_sz isD s
  unfold firT
  split
  · intro h; cases h
  · rename_i c l hl
    split
    · rename_i hL
      have h1 : 1 ≤ endN isW (bs s) := by rw [hl, endN_cons, if_pos (by simp [isW, hL])]; omega
      split
      · intro _; exact ⟨_, rfl, h1, hw⟩
      · split
        · intro _; exact ⟨_, rfl, h1, hw⟩
        · intro h; cases h
    · split
      · rename_i hD
        have h1 : 1 ≤ endN isD (bs s) := by rw [hl, endN_cons, if_pos hD]; omega
        intro h
        exact ⟨_, numT_len s h, h1, hd⟩
      · split
        · intro h
          obtain ⟨m, h1, h2, h3⟩ := quoT_len s h
          exact ⟨m, h1, by omega, h3⟩
        · split
          · rename_i x hx
            have := sgn_len hx
            intro _; exact ⟨_, rfl, this⟩
          · intro h; cases h
theorem fir_0 {s : ByteArray} (he : (firT s).2.2 ≠ 0) : (firT s).2.1 = 0 := by
  revert he
  unfold firT
  split
  · intro h; rfl
  · split
    · split
      · intro h; exact absurd rfl h
      · split
        · intro h; exact absurd rfl h
        · intro h; rfl
    · split
      · exact numT_0 s
      · split
        · exact quoT_0 s
        · split
          · intro h; exact absurd rfl h
          · intro h; rfl
/-- How long the token that a text begins with is. -/
def firL (s : ByteArray) : Nat := (firT s).2.1.toNat
theorem firL_eq (s : ByteArray) : (firT s).2.1 = (firL s : Int) := by
  unfold firL
  by_cases h : (firT s).2.2 = 0
  · obtain ⟨m, h1, _⟩ := fir_len h
    rw [h1]; simp
  · rw [fir_0 h]; rfl
theorem firL_le (s : ByteArray) : firL s ≤ s.size := by
  unfold firL
  by_cases h : (firT s).2.2 = 0
  · obtain ⟨m, h1, _, h3⟩ := fir_len h
    rw [h1]; simpa using h3
  · rw [fir_0 h]; simp
theorem firL_pos {s : ByteArray} (h : (firT s).2.2 = 0) : 1 ≤ firL s := by
  obtain ⟨m, h1, h2, _⟩ := fir_len h
  unfold firL; rw [h1]; simpa using h2
/-- The token at a place. -/
def ytok (s : ByteArray) (a : Nat) : Yl := ⟨(firT (sufS s a)).1.1, (firT (sufS s a)).1.2.1, (firT (sufS s a)).1.2.2, a, a + (firT (sufS s a)).2.1, (firT (sufS s a)).2.2⟩
/-- Where the next one begins. -/
def nxt (s : ByteArray) (a : Nat) : Nat := a + firL (sufS s a) + blk false (bs (sufS s (a + firL (sufS s a))))
def toksF : Nat → ByteArray → Nat → List Yl
  | 0, _, _ => []
  | f + 1, s, a => if a < s.size then (if (ytok s a).e = 0 then ytok s a :: toksF f s (nxt s a) else [ytok s a]) else []
/-- What is yielded of a text. -/
def toks (s : ByteArray) : List Yl := toksF (s.size + 1) s (blk false (bs s))
theorem nxt_le {s : ByteArray} {a : Nat} (h : a ≤ s.size) : nxt s a ≤ s.size := by
  unfold nxt
  have h1 := firL_le (sufS s a)
  rw [sufS_size h] at h1
  have h2 := blk_le false (bs (sufS s (a + firL (sufS s a))))
  rw [bs_len, sufS_size (by omega)] at h2
  omega
theorem nxt_gt {s : ByteArray} {a : Nat} (h : (ytok s a).e = 0) : a < nxt s a := by
  unfold nxt
  have := firL_pos (s := sufS s a) h
  omega
/-- What has been yielded ahead of a place. -/
def toksI (s : ByteArray) (pre : List Yl) (a : Nat) : Prop := a ≤ s.size ∧ (∀ y ∈ pre, y.e = 0) ∧ ∃ f, s.size < a + f ∧ toks s = pre ++ toksF f s a
theorem toksI_0 (s : ByteArray) : toksI s [] (blk false (bs s)) := by
  have h := blk_le false (bs s)
  rw [bs_len] at h
  exact ⟨h, by simp, s.size + 1, by omega, rfl⟩
theorem toksI_s {s : ByteArray} {pre : List Yl} {a : Nat} (h : toksI s pre a) (ha : a < s.size) (he : (ytok s a).e = 0) : toksI s (pre ++ [ytok s a]) (nxt s a) := by
  obtain ⟨h1, h2, f, h3, h4⟩ := h
  have hg := nxt_gt he
  cases f with
  | zero => omega
  | succ f =>
    refine ⟨nxt_le h1, fun y hy => ?_, f, by omega, ?_⟩
    · rcases List.mem_append.1 hy with hy | hy
      · exact h2 y hy
      · simp at hy; subst hy; exact he
    · rw [h4, toksF, if_pos ha, if_pos he]; simp
theorem toksI_len {s : ByteArray} {pre : List Yl} {a : Nat} (h : toksI s pre a) (ha : a < s.size) : ∃ rest, toks s = pre ++ ytok s a :: rest := by
  obtain ⟨h1, h2, f, h3, h4⟩ := h
  cases f with
  | zero => omega
  | succ f =>
    rw [toksF, if_pos ha] at h4
    split at h4
    · exact ⟨_, h4⟩
    · exact ⟨[], h4⟩
theorem toksI_stop {s : ByteArray} {pre : List Yl} {a : Nat} (h : toksI s pre a) (ha : a < s.size) (he : (ytok s a).e ≠ 0) : toks s = pre ++ [ytok s a] := by
  obtain ⟨h1, h2, f, h3, h4⟩ := h
  cases f with
  | zero => omega
  | succ f => rw [h4, toksF, if_pos ha, if_neg he]
theorem toksI_end {s : ByteArray} {pre : List Yl} {a : Nat} (h : toksI s pre a) (ha : s.size ≤ a) : toks s = pre := by
  obtain ⟨h1, h2, f, h3, h4⟩ := h
  cases f with
  | zero => omega
  | succ f => rw [h4, toksF, if_neg (by omega)]; simp

/-- A token as a value. -/
def tokV (y : Yl) (a z : Int) : Value := .agg #[.int .i64 y.k, .string y.t, .int .i64 y.n, .int .i64 a, .int .i64 z]
def encY (y : Yl) : Array Value := #[tokV y y.a y.z, .agg #[.int .i64 y.e, .int .i64 y.a]]
theorem XMeets.raw {f : FuncId} {s : ByteArray} {u : Value} (hm : XMeets Tryz.prog f [.v (.string s)] (.p (.v u) (nlv _))) {w : World} (hg : GlB w.heap.size w) : Calls Tryz.prog f #[.string s] w fun e w' => e = .returned u ∧ Below w.heap.size w w' := by
  refine (hm.2 (CxT w) [.string s] hg (DnL.cons (by simp [Dn]) .nil)).mono ?_
  rintro e w' ⟨u', ov, rfl, hb, _, hd⟩
  simp only [XV.den, Dn] at hd
  subst hd
  exact ⟨rfl, hb⟩
theorem blank_raw (s : ByteArray) (hs : s.size ≤ 140737488355328) {w : World} (hg : GlB w.heap.size w) : Calls Tryz.prog 56 #[.string s] w fun e w' => e = .returned (.int .i64 (blk false (bs s) : Int)) ∧ Below w.heap.size w w' := (blank_X s hs).raw hg
theorem first_raw (s : ByteArray) (hs : s.size ≤ 140737488355328) (h0 : 1 ≤ s.size) {w : World} (hg : GlB w.heap.size w) : Calls Tryz.prog 43 #[.string s] w fun e w' =>
    e = .returned (.tuple #[.agg #[.int .i64 (firT s).1.1, .string (firT s).1.2.1, .int .i64 (firT s).1.2.2, .int .i64 0, .int .i64 0], .int .i64 (firL s : Int), .int .i64 (firT s).2.2]) ∧ Below w.heap.size w w' := by
  refine ((first_X s hs h0).2 (CxT w) [.string s] hg (DnL.cons (by simp [Dn]) .nil)).mono ?_
  rintro e w' ⟨u', ov, rfl, hb, _, hd⟩
  simp only [XV.den, XV.denL, Dn, DnL] at hd
  obtain ⟨vs, rfl, u1, us1, rfl, ⟨v1, rfl, x1, y1, rfl, rfl, x2, y2, rfl, rfl, x3, y3, rfl, rfl, x4, y4, rfl, rfl, x5, y5, rfl, rfl, rfl⟩, u2, us2, rfl, rfl, u3, us3, rfl, rfl, rfl⟩ := hd
  rw [← firL_eq]
  exact ⟨rfl, hb⟩
end Go.Proofs.YtekpmlfcmnlmiaaGreatDoor

namespace Go.Proofs.YtekpmlfcmnlmiaaGreatDoor
open Go.RowKit Go.Shelf
set_option linter.unusedVariables false
set_option linter.unusedSimpArgs false

attribute [local go_sem] Oper.semAt_some

/-- The text that an iterator has captured. -/
def CapS (s : ByteArray) (ad : Addr) (W : World) : Prop := W.cell? ad = some (.string s) ∧ GlB W.heap.size W
theorem CapS.below {s : ByteArray} {ad : Addr} {W W' : World} (h : CapS s ad W) (hb : Below W.heap.size W W') : CapS s ad W' := ⟨(hb.cell (World.block_lt_of_cell? W ad h.1)).trans h.1, h.2.below hb⟩
theorem wrap64_range {n : Int} (h : -9223372036854775808 ≤ n ∧ n ≤ 9223372036854775807) : wrap64 n = n := by unfold wrap64; omega
set_option maxRecDepth 100000 in
set_option maxHeartbeats 1600000 in
theorem tokens1_in (l : Nat) (s : ByteArray) (hs : s.size ≤ 1000000) (ad : Addr) (J Jx : List Yl → World → Prop) (Kp : World → World → Prop)
    (hK : ∀ A' B', Kp A' B' → CapS s ad A' → CapS s ad B')
    (hJB : ∀ m A' B', J m A' → Below A'.heap.size A' B' → J m B')
    (hY : ∀ pre x W, J pre W → pre.length < (toks s).length → YieldAt Fence.wide 6 Tryz.prog l (encY x) W fun e W' =>
      (e = .returned (.bool true) ∧ J (pre ++ [x]) W' ∧ Kp W W') ∨ (e = .returned (.bool false) ∧ Jx (pre ++ [x]) W'))
    (W : World) (hI : CapS s ad W) (h0 : J [] W) :
    CallsIn Fence.wide 7 Tryz.prog 55 #[.func (.yield l) #[] #[], .pointer (some ad)] W fun e W' => (∃ v, e = .returned v) ∧ (J (toks s) W' ∨ ∃ pre rest, toks s = pre ++ rest ∧ pre ≠ [] ∧ Jx pre W') := by
  have c0 := hI.1
  have HB0 : CallsIn Fence.wide 6 Tryz.prog 56 #[.string s] W fun e w' => e = .returned (.int .i64 (blk false (bs s) : Int)) ∧ Below W.heap.size W w' := callsIn_wide.2 (blank_raw s (by omega) hI.2)
  refine callsIn_of_wp Tryz.func55 rfl trivial ?_ rfl
  simp only [Tryz.ntmps55, List.size_toArray, List.length_cons, List.length_nil, Nat.reduceAdd, Nat.reduceSub, Array.replicate_succ, Array.replicate_zero, List.push_toArray, List.append_toArray, List.nil_append, List.cons_append]
  have hF : Fence.wide.fn 56 := trivial
  have hF2 : Fence.wide.fn 43 := trivial
  gi_wp2_with fail
  refine HB0.mono ?_
  rintro e W0 ⟨rfl, hb0⟩
  have hI0 := hI.below hb0
  have hJ0 := hJB _ _ _ h0 hb0
  clear HB0 hb0 hI h0 c0
  gi_wp2
  gi_loopw [3] (fun p wr => ∃ (a : Nat) (pre : List Yl), p = .int .i64 (a : Int) ∧ toksI s pre a ∧ CapS s ad wr ∧ J pre wr) (fun p _ => s.size - (intOf p).toNat)
  case atStart => exact ⟨_, [], rfl, toksI_0 s, hI0, hJ0⟩
  case round =>
    clear hJ0 hI0
    obtain ⟨a, pre, rfl, ht, hC, hJ⟩ := hrel
    have c0 := hC.1
    have ha := ht.1
    by_cases hlt : a < s.size
    · have HF : CallsIn Fence.wide 6 Tryz.prog 43 #[.string (sufS s a)] wr fun e w' => e = .returned (.tuple #[.agg #[.int .i64 (firT (sufS s a)).1.1, .string (firT (sufS s a)).1.2.1, .int .i64 (firT (sufS s a)).1.2.2, .int .i64 0, .int .i64 0], .int .i64 (firL (sufS s a) : Int), .int .i64 (firT (sufS s a)).2.2]) ∧ Below wr.heap.size wr w' :=
        callsIn_wide.2 (first_raw (sufS s a) (by simp; omega) (by simp; omega) hC.2)
      gi_wp2_with fail
      refine HF.mono ?_
      rintro e W1 ⟨rfl, hb1⟩
      have hC1 := hC.below hb1
      have hJ1 := hJB _ _ _ hJ hb1
      obtain ⟨rest, hr⟩ := toksI_len ht hlt
      have hw : wrap64 ((a : Int) + (firL (sufS s a) : Int)) = (a : Int) + (firL (sufS s a) : Int) := wrap64_range (by have := firL_le (sufS s a); simp at this; omega)
      have he : encY (ytok s a) = #[.agg #[.int .i64 (firT (sufS s a)).1.1, .string (firT (sufS s a)).1.2.1, .int .i64 (firT (sufS s a)).1.2.2, .int .i64 (a : Int), .int .i64 ((a : Int) + (firL (sufS s a) : Int))], .agg #[.int .i64 (firT (sufS s a)).2.2, .int .i64 (a : Int)]] := by
        simp only [encY, tokV, ytok, firL_eq]
      have hBX : Below W1.heap.size W1 (W1.alloc (.cells #[.int .i64 (firT (sufS s a)).1.1, .string (firT (sufS s a)).1.2.1, .int .i64 (firT (sufS s a)).1.2.2, .int .i64 (a : Int), .int .i64 ((a : Int) + (firL (sufS s a) : Int))] 43)) := (Below.refl _ W1).alloc (Nat.le_refl _) _
      obtain ⟨fn, tmps, assign, body, hy, hR⟩ := hY pre (ytok s a) _ (hJB _ _ _ hJ1 hBX) (by rw [hr]; simp)
      rw [he] at hy
      have hC2 := hC1.below hBX
      have HT := Lib.hid ht
      have HR := Lib.hid hr
      clear HF hb1 hJ1 hC hJ c0 he ht hr
      by_cases hz : (firT (sufS s a)).2.2 = 0
      · rw [hz] at hy ⊢
        gi_wp2_with fail
        refine hR.mono ?_
        rintro e W' (⟨rfl, hJ', hk'⟩ | ⟨rfl, hJx'⟩)
        · have hC3 := hK _ _ hk' hC2
          clear hC2 hR hy hk'
          have c3 := hC3.1
          have hfl := firL_le (sufS s a)
          rw [sufS_size ha] at hfl
          have hin : (0 : Int) ≤ (a : Int) + (firL (sufS s a) : Int) ∧ (a : Int) + (firL (sufS s a) : Int) ≤ (s.size : Int) := by omega
          have hto : ((a : Int) + (firL (sufS s a) : Int)).toNat = a + firL (sufS s a) := by omega
          have HB : CallsIn Fence.wide 6 Tryz.prog 56 #[.string (sufS s (a + firL (sufS s a)))] W' fun e w' => e = .returned (.int .i64 (blk false (bs (sufS s (a + firL (sufS s a)))) : Int)) ∧ Below W'.heap.size W' w' := callsIn_wide.2 (blank_raw _ (by simp; omega) hC3.2)
          gi_wp2_with fail
          refine HB.mono ?_
          rintro e W2 ⟨rfl, hb2⟩
          have hC4 := hC3.below hb2
          have hJ4 := hJB _ _ _ hJ' hb2
          have hn : (a : Int) + (firL (sufS s a) : Int) + (blk false (bs (sufS s (a + firL (sufS s a)))) : Int) = (nxt s a : Int) := by unfold nxt; omega
          have hnl := nxt_le ha
          have hng := nxt_gt (s := s) (a := a) hz
          have hw2 : wrap64 ((a : Int) + (firL (sufS s a) : Int) + (blk false (bs (sufS s (a + firL (sufS s a)))) : Int)) = (nxt s a : Int) := by rw [hn]; exact wrap64_range (by omega)
          clear HB hJ' hC3 c3 hb2
          gi_wp2
          go_roundw
          case rel => exact ⟨nxt s a, _, by first | rfl | go_num, toksI_s HT.out hlt hz, hC4, hJ4⟩
          case measure => simp [intOf]; omega
        · gi_wp2
          refine bodyPost_ret (results_none rfl _ _ _) rfl ?_
          exact ⟨⟨_, rfl⟩, .inr ⟨_, rest, by rw [HR.out]; simp, by simp, hJx'⟩⟩
      · gi_wp2_with fail
        refine hR.mono ?_
        rintro e W' (⟨rfl, hJ', hk'⟩ | ⟨rfl, hJx'⟩)
        · gi_wp2
          refine bodyPost_ret (results_none rfl _ _ _) rfl ?_
          exact ⟨⟨_, rfl⟩, .inl (by rw [toksI_stop HT.out hlt hz]; exact hJ')⟩
        · gi_wp2
          refine bodyPost_ret (results_none rfl _ _ _) rfl ?_
          exact ⟨⟨_, rfl⟩, .inr ⟨_, rest, by rw [HR.out]; simp, by simp, hJx'⟩⟩
    · have := toksI_end ht (by omega)
      gi_wp2
      go_end0
      exact ⟨⟨_, rfl⟩, .inl (by rw [this]; exact hJ)⟩
theorem grown_below' {w w' : World} (h : Below w.heap.size w w') : w.grownBy w' none := ⟨h.os, h.tape, h.output, h.size, fun k hk _ => h.block k hk⟩
theorem add_0 (ad : Addr) : ad.add 0 = ad := by
  unfold Addr.add
  split <;> simp_all
/-- The iterator, of what it has captured. -/
theorem tokens_seq (s : ByteArray) (hs : s.size ≤ 1000000) : SeqX Tryz.prog 55 [.eptr [.v (.string s)]] encY (fun ys => ys = toks s) (fun pre => (∃ rest, toks s = pre ++ rest) ∧ pre ≠ []) (toks s).length := ⟨by kernel_rfl, fun w vals hg hd => by
  simp only [DnL, Dn] at hd
  obtain ⟨u, us, rfl, ⟨ad, vs, rfl, _, _, ⟨v, vs', rfl, rfl, rfl⟩, hc⟩, rfl⟩ := hd
  have hc0 := hc 0 _ rfl
  rw [add_0] at hc0
  intro l J Jx W hW hJ hJx hY h0
  have hC : CapS s ad W := ⟨(hW.cell (World.block_lt_of_cell? w ad hc0)).trans hc0, hg.below hW⟩
  have hK : ∀ A' B', KpT [.eptr [.v (.string s)]] [.pointer (some ad)] A' B' → CapS s ad A' → CapS s ad B' := fun A' B' h hC => by
    have hk : DnL (CxT A') [.eptr [.v (.string s)]] [.pointer (some ad)] := by
      simp only [DnL, Dn]
      exact ⟨_, _, rfl, ⟨ad, [.string s], rfl, trivial, World.block_lt_of_cell? A' ad hC.1, ⟨_, _, rfl, rfl, rfl⟩, fun j x hx => by
        cases j with
        | zero => simp at hx; subst hx; rw [add_0]; exact hC.1
        | succ j => simp at hx⟩, rfl⟩
    obtain ⟨h1, h2⟩ := h ⟨hk, hC.2⟩
    simp only [DnL, Dn] at h1
    obtain ⟨u, us, e1, ⟨ad', vs, rfl, _, _, ⟨v, vs', rfl, rfl, rfl⟩, hc'⟩, rfl⟩ := h1
    injection e1 with e1 _
    injection e1 with e1
    injection e1 with e1
    subst e1
    have := hc' 0 _ rfl
    rw [add_0] at this
    exact ⟨this, h2⟩
  refine (tokens1_in l s hs ad J Jx _ hK (fun m A' B' h hb => hJ _ _ _ none h (grown_below' hb) (fun r e => by cases e)) hY W hC h0).mono ?_
  rintro e W' ⟨h1, h2 | ⟨pre, rest, h2, h3, h4⟩⟩
  · exact ⟨h1, .inl ⟨_, rfl, h2⟩⟩
  · exact ⟨h1, .inr ⟨pre, ⟨⟨rest, h2⟩, h3⟩, h4⟩⟩⟩
end Go.Proofs.YtekpmlfcmnlmiaaGreatDoor

namespace Go.Proofs.YtekpmlfcmnlmiaaGreatDoor
open Go.RowKit
set_option linter.unusedVariables false
set_option linter.unusedSimpArgs false
set_option maxRecDepth 20000
/-- A token's cells. -/
def tokC (y : Yl) : List TV := [.v (.int .i64 y.k), .v (.string y.t), .v (.int .i64 y.n), .v (.int .i64 y.a), .v (.int .i64 y.z)]
theorem nl_tok (l : List Yl) : NlLL (l.map tokC) := .map fun x _ => .cons (nlv _) (.cons (nlv _) (.cons (nlv _) (.cons (nlv _) (.cons (nlv _) .nil))))
theorem fr_tok (l : List Yl) : FrLL (l.map tokC) := FrLL_map _ _ fun x _ => by simp [tokC, FrL, Fr]
theorem pu_tok (l : List Yl) : PuLL (l.map tokC) := PuLL_map _ _ fun x _ => by simp [tokC, PuL, Pu]
theorem untag_tok (l : List Yl) : untagLL (l.map tokC) = l.map tokC := by rw [untagLL_map]; rfl
/-- The first that is no token, and why. -/
def lexG : Nat → List Yl → Option (Int × Int)
  | _, [] => none
  | m, y :: ys => if m = 300 then some (3, y.a) else if y.e ≠ 0 then some (y.e, y.a) else lexG (m + 1) ys
/-- A text's tokens; why there are none, and where. -/
def lexT (s : ByteArray) : List Yl × (Int × Int) := if 1024 < s.size then ([], (3, 0)) else match lexG 0 (toks s) with
  | some p => ([], p)
  | none => (toks s, (0, 0))
def lexOk (l : List Yl) : Prop := l.length ≤ 300 ∧ ∀ y ∈ l, y.e = 0
theorem lexOk_0 : lexOk [] := ⟨by simp, by simp⟩
theorem lexOk_s {l : List Yl} {x : Yl} (h : lexOk l) (h1 : ¬ (l.length : Int) = 300) (h2 : x.e = 0) : lexOk (l ++ [x]) := ⟨by have := h.1; simp; omega, fun y hy => by
  rcases List.mem_append.1 hy with hy | hy
  · exact h.2 y hy
  · simp at hy; subst hy; exact h2⟩
theorem lexG_app : ∀ (l rest : List Yl) (m : Nat), (∀ y ∈ l, y.e = 0) → m + l.length ≤ 300 → lexG m (l ++ rest) = lexG (m + l.length) rest
  | [], rest, m, _, _ => rfl
  | x :: l, rest, m, h, hm => by
    simp only [List.length_cons] at hm
    rw [List.cons_append, lexG, if_neg (by omega), if_neg (by simp [h x (by simp)]), lexG_app l rest (m + 1) (fun y hy => h y (by simp [hy])) (by omega)]
    simp only [List.length_cons]
    congr 1; omega
theorem lexG_ok {l : List Yl} (h : lexOk l) : lexG 0 l = none := by
  have := lexG_app l [] 0 h.2 (by have := h.1; omega)
  simp at this
  rw [this]; rfl
theorem lexG_many {l : List Yl} {x : Yl} (h : lexOk l) (h1 : (l.length : Int) = 300) (rest : List Yl) : lexG 0 (l ++ [x] ++ rest) = some (3, x.a) := by
  rw [List.append_assoc, lexG_app l _ 0 h.2 (by have := h.1; omega)]
  rw [show ([x] ++ rest) = x :: rest from rfl, lexG, if_pos (by omega)]
theorem lexG_err {l : List Yl} {x : Yl} (h : lexOk l) (h1 : ¬ (l.length : Int) = 300) (h2 : ¬ x.e = 0) (rest : List Yl) : lexG 0 (l ++ [x] ++ rest) = some (x.e, x.a) := by
  rw [List.append_assoc, lexG_app l _ 0 h.2 (by have := h.1; omega)]
  rw [show ([x] ++ rest) = x :: rest from rfl, lexG, if_neg (by omega), if_pos h2]
theorem lexT_long {s : ByteArray} (h : 1024 < s.size) : lexT s = ([], (3, 0)) := by unfold lexT; rw [if_pos h]
theorem lexT_ok {s : ByteArray} (h : ¬ 1024 < s.size) (h1 : lexG 0 (toks s) = none) : lexT s = (toks s, (0, 0)) := by unfold lexT; rw [if_neg h, h1]
theorem lexT_err {s : ByteArray} {p : Int × Int} (h : ¬ 1024 < s.size) (h1 : lexG 0 (toks s) = some p) : lexT s = ([], p) := by unfold lexT; rw [if_neg h, h1]
set_option maxRecDepth 20000 in
theorem lex_X (s : ByteArray) (hs : s.size ≤ 1000000) : XMeets Tryz.prog 17 [.v (.string s)] (.tu [.ow 43 5 (((lexT s).1).map tokC) (nl_tok _), .ag [.p (.v (.int .i64 ((lexT s).2.1))) (nlv _), .p (.v (.int .i64 ((lexT s).2.2))) (nlv _)]]) := by
  refine XMeets.of_XF tabX_ok (avs := [.p (.v (.string s)) (nlv _)]) [(0, .p (.v (.string s)) (nlv _))] (by kernel_rfl) Tryz.func17 rfl (by simp [PuL, Pu]) (rfl) rfl rfl ?_
  intro B w0
  have hsl := bs_len s
  conv => whnf
  refine bS (fun hc1 => ?_) (fun hc1 => ?_)
  · skip
    try simp only [bls] at hc1
    conv => whnf
    refine FinG.mk none ?_ (by rintro _ ⟨⟩)
    simp only [outs, List.length_map, List.length_append, List.length_take, List.length_drop, List.length_cons, List.length_nil]
    rw [lexT_long (by omega)]
    simp
  · skip
    try simp only [bls] at hc1
    conv => whnf
    refine .inl ?_
    conv => whnf
    refine InlG.mk (by kernel_rfl) Tryz.func36 rfl (Nat.le_of_ble_eq_true rfl) (XT.of tabX_ok ?_)
    conv => whnf
    refine ⟨.inr rfl, ?_⟩
    conv => whnf
    refine XRG.nilc 2 0 43 5 rfl rfl ?_
    conv => whnf
    refine XRG0.mk (α := Yl) (Y := List Yl) (Z := (List Yl × (Int × Int))) 55 [.eptr [.v (.string s)]] (encx := fun y => [.ag [.p (.v (.int .i64 (y.k))) (nlv _), .p (.v (.string (y.t))) (nlv _), .p (.v (.int .i64 (y.n))) (nlv _), .p (.v (.int .i64 (y.a))) (nlv _), .p (.v (.int .i64 (y.z))) (nlv _)], .ag [.p (.v (.int .i64 (y.e))) (nlv _), .p (.v (.int .i64 (y.a))) (nlv _)]]) (encv := encY) (tokens_seq s hs) (fun C y => by simp [XV.denL, XV.den, encY, tokV, DnL, Dn]) (fun _ => rfl) [] (fun y => [(2, .cells 24 [.row 4]), (4, .row 43 5 (y.map tokC) (nl_tok _))]) (fun pre y => y = pre ∧ lexOk pre) (fun z => [(0, .cells 24 [.p .nil_ nlnil]), (1, .cells 39 [.p (.v (.int .i64 (z.2.1))) (nlv _), .p (.v (.int .i64 (z.2.2))) (nlv _)]), (2, .cells 24 [.row 4]), (4, .row 43 5 (z.1.map tokC) (nl_tok _))]) (fun ex pre z => ex = Exit.ret ∧ ∀ rest, lexG 0 (pre ++ rest) = some z.2) ([]) (⟨rfl, lexOk_0⟩) ?_ ?_ ?_ ?_ ?_
    · skip
      refine ⟨?_, ?_, ?_⟩
      · skip
        repeat ((conv => whnf); first | exact True.intro | refine ⟨.rfl, ?_⟩ | refine ⟨.any, ?_⟩ | refine ⟨.nil, ?_⟩ | refine ⟨.int (by first | rfl | omega | (simp only [wrs]; omega)), ?_⟩)
      · skip
        repeat (first | exact LeVs.nil | ((conv => whnf); first | exact True.intro | exact .none | exact .row rfl | refine .cells ?_ | refine ⟨_, _, rfl, .rfl, ?_⟩ | refine ⟨_, _, rfl, .any, ?_⟩ | refine ⟨_, _, rfl, .nil, ?_⟩ | refine ⟨_, _, rfl, .int (by first | rfl | omega | (simp only [wrs]; omega)), ?_⟩ | refine ⟨?_, ?_⟩))
        done
      · skip
        exact LeFr.nil
    · skip
      intro pre y hy
      conv => whnf
      exact ⟨rfl, _, rfl, CapLe.pu (by simp [PuL, Pu])⟩
    · skip
      rintro W pre x y ⟨rfl, hk⟩ hlen
      have hk1 := hk.1
      conv => whnf
      refine ⟨⟨rfl, ⟨rfl, _, rfl, CapLe.pu (by simp [PuL, Pu])⟩⟩, ?_⟩
      conv => whnf
      intro z2
      conv => whnf
      refine bS (fun hc3 => ?_) (fun hc3 => ?_)
      · skip
        try simp only [bls] at hc3
        conv => whnf
        refine RegG.late 5 [(0, 0, 1), (1, 0, 2)] (by kernel_rfl) ?_
        conv => whnf
        refine ⟨rfl, ?_⟩
        conv => whnf
        refine ⟨rfl, ?_⟩
        conv => whnf
        refine ⟨((y, (3, x.a)) : List Yl × (Int × Int)), ⟨rfl, lexG_many hk (by first | omega | (simp only [List.length_map] at *; omega))⟩, ?_⟩
        refine ⟨?_, ?_, ?_⟩
        · skip
          repeat ((conv => whnf); first | exact True.intro | refine ⟨.rfl, ?_⟩ | refine ⟨.any, ?_⟩ | refine ⟨.nil, ?_⟩ | refine ⟨.int (by first | rfl | omega | (simp only [wrs]; omega)), ?_⟩)
        · skip
          repeat (first | exact LeVs.nil | ((conv => whnf); first | exact True.intro | exact .none | exact .row rfl | refine .cells ?_ | refine ⟨_, _, rfl, .rfl, ?_⟩ | refine ⟨_, _, rfl, .any, ?_⟩ | refine ⟨_, _, rfl, .nil, ?_⟩ | refine ⟨_, _, rfl, .int (by first | rfl | omega | (simp only [wrs]; omega)), ?_⟩ | refine ⟨?_, ?_⟩))
          done
        · skip
          exact LeFr.same (by kernel_rfl)
      · skip
        try simp only [bls] at hc3
        conv => whnf
        refine bS (fun hc4 => ?_) (fun hc4 => ?_)
        · skip
          try simp only [bls] at hc4
          conv => whnf
          refine RegG.late 3 [(0, 0, 1), (1, 0, 2)] (by kernel_rfl) ?_
          conv => whnf
          refine ⟨rfl, ?_⟩
          conv => whnf
          refine ⟨rfl, ?_⟩
          conv => whnf
          refine ⟨((y, (x.e, x.a)) : List Yl × (Int × Int)), ⟨rfl, lexG_err hk (by first | omega | (simp only [List.length_map] at *; omega)) (by omega)⟩, ?_⟩
          refine ⟨?_, ?_, ?_⟩
          · skip
            repeat ((conv => whnf); first | exact True.intro | refine ⟨.rfl, ?_⟩ | refine ⟨.any, ?_⟩ | refine ⟨.nil, ?_⟩ | refine ⟨.int (by first | rfl | omega | (simp only [wrs]; omega)), ?_⟩)
          · skip
            repeat (first | exact LeVs.nil | ((conv => whnf); first | exact True.intro | exact .none | exact .row rfl | refine .cells ?_ | refine ⟨_, _, rfl, .rfl, ?_⟩ | refine ⟨_, _, rfl, .any, ?_⟩ | refine ⟨_, _, rfl, .nil, ?_⟩ | refine ⟨_, _, rfl, .int (by first | rfl | omega | (simp only [wrs]; omega)), ?_⟩ | refine ⟨?_, ?_⟩))
            done
          · skip
            exact LeFr.same (by kernel_rfl)
        · skip
          try simp only [bls] at hc4
          conv => whnf
          refine ⟨ApOk.lit rfl, ?_⟩
          conv => whnf
          refine ⟨by simp only [List.length_map, List.length_cons, List.length_nil]; omega, ?_⟩
          conv => whnf
          refine ⟨(y ++ [x]), ⟨rfl, lexOk_s hk (by first | omega | (simp only [List.length_map] at *; omega)) (by omega)⟩, ?_⟩
          refine ⟨?_, ?_, ?_⟩
          · skip
            repeat ((conv => whnf); first | exact True.intro | refine ⟨.rfl, ?_⟩ | refine ⟨.any, ?_⟩ | refine ⟨.nil, ?_⟩ | refine ⟨.int (by first | rfl | omega | (simp only [wrs]; omega)), ?_⟩)
          · skip
            repeat (first | exact LeVs.nil | ((conv => whnf); first | exact True.intro | exact .none | exact .row rfl | exact .row ((by simp [tokC]; done)) | refine .cells ?_ | refine ⟨_, _, rfl, .rfl, ?_⟩ | refine ⟨_, _, rfl, .any, ?_⟩ | refine ⟨_, _, rfl, .nil, ?_⟩ | refine ⟨_, _, rfl, .int (by first | rfl | omega | (simp only [wrs]; omega)), ?_⟩ | refine ⟨?_, ?_⟩))
            done
          · skip
            exact LeFr.same (by kernel_rfl)
    · skip
      rintro w1 xs y rfl ⟨rfl, hk⟩
      conv => whnf
      refine FinG.mk (some 4) ?_ (by rintro _ ⟨⟩; trivial)
      simp only [outs, List.length_map, List.length_append, List.length_take, List.length_drop, List.length_cons, List.length_nil]
      rw [lexT_ok (by omega) (lexG_ok hk)]
      simp [fr_tok]
    · skip
      rintro w1 ex pre z ⟨⟨rest, hr⟩, hne⟩ ⟨rfl, hz⟩
      have hz := hz rest
      rw [← hr] at hz
      conv => whnf
      refine FinG.mk none ?_ (by rintro _ ⟨⟩)
      simp only [outs, List.length_map, List.length_append, List.length_take, List.length_drop, List.length_cons, List.length_nil]
      rw [lexT_err (by omega) hz]
      simp
end Go.Proofs.YtekpmlfcmnlmiaaGreatDoor
