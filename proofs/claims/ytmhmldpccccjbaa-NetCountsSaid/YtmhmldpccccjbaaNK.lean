/- As many are carried as were sent and doubled, less those that came, or were lost: plain law of NetCounts. No condition. -/
import Derived.Test.YtmhmldpccccjbaaNV
import Derived.Test.YtmhmldpccccjbaaT30
import Derived.DeepKeys4
namespace Go.Proofs.Ytmhmldpccccjbaa
open Go.RowKit
set_option linter.unusedVariables false
set_option linter.unusedSimpArgs false

/-- A letter of a byte. -/
def ltC (x : Sl) : List TV := [.v (.int .i64 x.f), .v (.int .i64 x.t), .v (.int .u8 (x.b.headD 0))]
theorem nl_lt (l : List Sl) : NlLL (l.map ltC) := .map fun s _ => .cons (nlv _) (.cons (nlv _) (.cons (nlv _) .nil))
/-- The net when so many were sent: what it carries is what was sent last. -/
structure RowI (i sent : Nat) (n : NetA) : Prop where
  d : n.d = []
  l : n.l = (79 + (sent : Int)) % 80
  si : sent ≤ i
  s70 : sent ≤ 70
  sl : n.s.length ≤ sent
  at_ : ∀ (k : Nat) (x : Sl), n.s[k]? = some x → x.a = (sent : Int) - n.s.length + k ∧ x.f = 1 ∧ nodeB x.t = true ∧ x.t ≠ 1 ∧ x.b.length = 1
section
variable {i sent : Nat} {n : NetA}
theorem RowI.mem (h : RowI i sent n) {x : Sl} (hx : x ∈ n.s) : 0 ≤ x.a ∧ x.a < sent ∧ x.f = 1 ∧ nodeB x.t = true ∧ x.t ≠ 1 ∧ x.b.length = 1 := by
  obtain ⟨k, hk, rfl⟩ := List.getElem_of_mem hx
  obtain ⟨h1, h2⟩ := h.at_ k _ (List.getElem?_eq_getElem hk)
  have := h.sl
  exact ⟨by omega, by omega, h2⟩
theorem RowI.way (h : RowI i sent n) : WayS n.s where
  n := by have := h.sl; have := h.s70; omega
  w := fun y hy => by have := h.mem hy; have := h.s70; unfold inWay; omega
  o := by
    rw [List.pairwise_iff_getElem]
    intro a b ha hb hab
    have h1 := (h.at_ a _ (List.getElem?_eq_getElem ha)).1
    have h2 := (h.at_ b _ (List.getElem?_eq_getElem hb)).1
    omega
theorem RowI.right (h : RowI i sent n) : rightB n = true := right_is
  { l := by rw [h.l]; omega
    s := h.way
    p := fun x hx => by
      obtain ⟨_, _, h1, h2, h3, h4⟩ := h.mem hx
      rw [h1, h4]
      unfold pkB
      rw [h2]
      simp only [Bool.and_true, Bool.and_eq_true, Bool.not_eq_true', decide_eq_false_iff_not, decide_eq_true_eq]
      exact ⟨⟨by decide, fun e => h3 e.symm⟩, by omega⟩
    d := by rw [h.d]; constructor <;> simp }
theorem node_le {t : Int} (h : nodeB t = true) : 1 ≤ t ∧ t ≤ 8 := by simpa [nodeB] using h
theorem RowI.ok (h : RowI i sent n) : n.Ok where
  s := fun x hx => by
    obtain ⟨h0, h5, h1, h2, h3, h4⟩ := h.mem hx
    have h6 := node_le h2
    have := h.s70
    exact ⟨by unfold I64; omega, by unfold I64; omega, by unfold I64; omega, by omega⟩
  sn := by have := h.sl; have := h.s70; omega
  l := by rw [h.l]; unfold I64; omega
  d := fun x hx => by rw [h.d] at hx; cases hx
  dn := by rw [h.d]; simp
theorem RowI.send_t (h : RowI i sent n) (hs : sent < 70) {t v : Int} (ht : pkB 1 t 1 = true) : sendN n 1 [(t, [v])] = (⟨n.s ++ [⟨sent, 1, t, [v]⟩], sent, []⟩, 0) := by
  have hl : slotN n.l 0 = sent := by unfold slotN; rw [h.l]; omega
  have hfree : hasS n.s (slotN n.l 0) = false := by
    rw [hl]
    unfold hasS
    rw [List.any_eq_false]
    intro x hx
    have := h.mem hx
    simp only [decide_eq_true_eq]
    omega
  have hf : freeI n.s n.l = some 0 := first_some (by omega) (by rw [hfree]; rfl) (fun j hj => by omega)
  have hp : posS n.s sent = n.s.length := by
    rcases Nat.lt_or_ge (posS n.s sent) n.s.length with h1 | h1
    · have h2 := posS_ge h.way.o (Nat.le_refl _) (List.getElem?_eq_getElem h1)
      have := h.mem (List.getElem_mem h1)
      omega
    · have := posS_le n.s sent; omega
  have hpk : pkB 1 t [v].length = true ∧ (1, t) ∉ n.d := ⟨ht, by rw [h.d]; simp⟩
  unfold sendN sendK
  rw [if_pos h.right, if_pos (by decide), List.foldl_cons, List.foldl_nil]
  unfold sstep
  simp only []
  rw [if_pos hpk]
  unfold fillN
  rw [hf]
  simp only [hl]
  unfold insS
  simp only [hp, List.take_length, List.drop_length, List.append_nil, h.d]
theorem RowI.send_f (h : RowI i sent n) {t v : Int} (ht : pkB 1 t 1 = false) : sendN n 1 [(t, [v])] = (n, 0) := by
  unfold sendN sendK
  rw [if_pos h.right, if_pos (by decide), List.foldl_cons, List.foldl_nil]
  unfold sstep
  simp only []
  rw [if_neg (by simp [ht])]
theorem RowI.next (h : RowI i sent n) : RowI (i + 1) sent n := ⟨h.d, h.l, by have := h.si; omega, h.s70, h.sl, h.at_⟩
theorem RowI.none (h : RowI i sent n) (hs : n.s = []) : delivN n 0 = (net0, sl0, 4) := by
  unfold delivN
  rw [if_pos h.right, mt_none h.right (Int.le_refl _) hs]
  rfl
theorem RowI.del (h : RowI i sent n) {x : Sl} {s : List Sl} (hs : n.s = x :: s) : delivN n 0 = (⟨s, n.l, []⟩, x, 0) := by
  have hx := h.mem (x := x) (by rw [hs]; simp)
  have h70 := h.s70
  have hm : mtN 0 x.a.toNat = x.a := by unfold mtN; omega
  have hmt : mtK n.s 0 = (0, 0) := by
    have h1 := mtK_t (s := n.s) (p := 0) (i := x.a.toNat) (Int.le_refl _) (by omega) (by
      rw [hm, hs]; simp [hasS]) (fun j hj => by
      have e : mtN 0 j = j := by unfold mtN; omega
      rw [e]
      unfold hasS
      rw [List.any_eq_false]
      intro y hy
      obtain ⟨k, hk, rfl⟩ := List.getElem_of_mem hy
      have h2 := (h.at_ k _ (List.getElem?_eq_getElem hk)).1
      have h3 := (h.at_ 0 x (by rw [hs]; rfl)).1
      simp only [decide_eq_true_eq]
      omega)
    rw [hm] at h1
    have h4 : posS n.s x.a = 0 := by
      rcases Nat.eq_zero_or_pos (posS n.s x.a) with h5 | h5
      · exact h5
      · have := posS_lt h5 (show n.s[0]? = some x by rw [hs]; rfl)
        omega
    rw [h1, h4]
    rfl
  have hat : slotAt n 0 = x := by unfold slotAt; rw [hs]; rfl
  unfold delivN
  rw [if_pos h.right, hmt]
  simp only [if_true, hat]
  rw [if_neg (by rw [h.d]; simp)]
  simp [delS, hs, h.d]
/-- What stands ahead of a window. -/
def Pre := {l : List (List TV) // NlLL l}
def Pre.nil : Pre := ⟨[], .nil⟩
def Pre.snoc (p : Pre) (x : Sl) : Pre := ⟨p.1 ++ [ltC x], p.2.append (nl_lt [x])⟩
/-- Truths, one by one. -/
def bo1 (b : Bool) : List TV := [.v (.bool b)]
end
end Go.Proofs.Ytmhmldpccccjbaa

namespace Go.Proofs.Ytmhmldpccccjbaa
open Go.RowKit
set_option linter.unusedVariables false
set_option linter.unusedSimpArgs false
set_option maxRecDepth 20000

/-- A letter's numbers. -/
structure Lt where
  f : Int
  t : Int
  b : Int
  deriving DecidableEq
def Lt.v (x : Lt) : Value := .agg #[.int .i64 x.f, .int .i64 x.t, .int .u8 x.b]
def Lt.wf (x : Lt) : Prop := (Lit.int .i64 x.f).wf = true ∧ (Lit.int .i64 x.t).wf = true ∧ (Lit.int .u8 x.b).wf = true
theorem lt_law : WideMaps.KeyLaw Try.prog 59 := deep_law_laid (by kernel_rfl) (m := 4) (by omega) (Nat.le_of_ble_eq_true (n := 60) (by kernel_rfl)) (by kernel_rfl) (by kernel_rfl)
theorem lt_keyed : Maps.Keyed Try.prog 59 := .of_law lt_law
theorem lt_types : Program.keyType Try.prog 59 = true := by kernel_rfl
theorem lt_cells : Try.prog.cellsOf 59 = 3 := by kernel_rfl
theorem lt_c3 : Try.prog.cellsOf 3 = 1 := by kernel_rfl
theorem lt_c5 : Try.prog.cellsOf 5 = 1 := by kernel_rfl
theorem lt_size : ∃ d, Try.prog.types.size + 1 = d + 2 := ⟨Try.prog.types.size - 1, by have : 1 ≤ Try.prog.types.size := Nat.le_of_ble_eq_true (by kernel_rfl); omega⟩
theorem lits3 (d : Nat) (v : Value) (ls : List Lit) : Try.prog.keyLits (d + 1) 3 [v] = some ls ↔ ∃ n, v = .int .i64 n ∧ (Lit.int .i64 n).wf = true ∧ ls = [.int .i64 n] := by
  unfold Program.keyLits
  rw [Try.underlying3]
  constructor
  · intro h
    split at h <;> simp_all
  · rintro ⟨n, rfl, h, rfl⟩
    simp [h]
theorem lits5 (d : Nat) (v : Value) (ls : List Lit) : Try.prog.keyLits (d + 1) 5 [v] = some ls ↔ ∃ n, v = .int .u8 n ∧ (Lit.int .u8 n).wf = true ∧ ls = [.int .u8 n] := by
  unfold Program.keyLits
  rw [Try.underlying5]
  constructor
  · intro h
    split at h <;> simp_all
  · rintro ⟨n, rfl, h, rfl⟩
    simp [h]
theorem lits59 (d : Nat) (x y z : Value) : Try.prog.keyLits (d + 2) 59 [x, y, z] = (Try.prog.keyLits (d + 1) 3 [x]).bind fun a => (Try.prog.keyLits (d + 1) 3 [y]).bind fun b => (Try.prog.keyLits (d + 1) 5 [z]).bind fun c => some (a ++ b ++ c) := by
  generalize hA : Try.prog.keyLits (d + 1) 3 [x] = A
  generalize hB : Try.prog.keyLits (d + 1) 3 [y] = B
  generalize hC : Try.prog.keyLits (d + 1) 5 [z] = C
  rw [show d + 2 = (d + 1) + 1 from rfl]
  conv => lhs; unfold Program.keyLits
  rw [Try.underlying59]
  simp only [lt_cells, List.length_cons, List.length_nil]
  rw [if_pos ⟨trivial, by simp⟩]
  simp only [List.mapM_cons, List.mapM_nil, lt_c3, lt_c5, List.drop_zero, List.drop_succ_cons, List.take_succ_cons, List.take_zero, hA, hB, hC]
  cases A <;> cases B <;> cases C <;> simp
def ltK (x : Lt) : Lit := .string (keyBytes [.int .i64 x.f, .int .i64 x.t, .int .u8 x.b])
theorem lt_key {x : Lt} (h : x.wf) : keyOf Try.prog 59 x.v = some (ltK x) := by
  obtain ⟨h1, h2, h3⟩ := h
  obtain ⟨d, hd⟩ := lt_size
  unfold keyOf
  rw [Try.underlying59]
  simp only [lt_types, Lt.v, Bool.true_and, hd, Value.formed, Try.underlying59, lt_cells]
  rw [if_pos (by rfl)]
  show Option.map _ (Try.prog.keyLits (d + 2) 59 [_, _, _]) = _
  rw [lits59, (lits3 d _ _).2 ⟨_, rfl, h1, rfl⟩, (lits3 d _ _).2 ⟨_, rfl, h2, rfl⟩, (lits5 d _ _).2 ⟨_, rfl, h3, rfl⟩]
  rfl
theorem lt_inv {v : Value} {kl : Lit} (h : keyOf Try.prog 59 v = some kl) : ∃ x : Lt, x.wf ∧ v = x.v ∧ kl = ltK x := by
  obtain ⟨d, hd⟩ := lt_size
  unfold keyOf at h
  rw [Try.underlying59] at h
  simp only [lt_types, Bool.true_and, hd] at h
  split at h
  · rename_i hf
    cases v <;> simp only [Value.formed, Try.underlying59, Bool.false_eq_true, lt_cells] at hf
    rename_i cs
    have hl : cs.toList.length = 3 := by simpa using hf
    have hc : (Value.agg cs).cells.toList = cs.toList := rfl
    rw [hc] at h
    obtain ⟨x, y, z, hxyz⟩ : ∃ x y z, cs.toList = [x, y, z] := by
      match hcs : cs.toList, hl with
      | [x, y, z], _ => exact ⟨x, y, z, rfl⟩
    rw [hxyz, lits59] at h
    have hcs : cs = #[x, y, z] := by rw [← Array.toArray_toList (xs := cs), hxyz]
    cases hA : Try.prog.keyLits (d + 1) 3 [x] with
    | none => rw [hA] at h; simp at h
    | some A =>
    cases hB : Try.prog.keyLits (d + 1) 3 [y] with
    | none => rw [hA, hB] at h; simp at h
    | some B =>
    cases hC : Try.prog.keyLits (d + 1) 5 [z] with
    | none => rw [hA, hB, hC] at h; simp at h
    | some C =>
    obtain ⟨a, rfl, h1, rfl⟩ := (lits3 d _ _).1 hA
    obtain ⟨b, rfl, h2, rfl⟩ := (lits3 d _ _).1 hB
    obtain ⟨c, rfl, h3, rfl⟩ := (lits5 d _ _).1 hC
    rw [hA, hB, hC] at h
    refine ⟨⟨a, b, c⟩, ⟨h1, h2, h3⟩, by rw [hcs]; rfl, ?_⟩
    simp at h
    exact h.symm
  · cases h
theorem lt_inj {x y : Lt} (hx : x.wf) (hy : y.wf) (h : ltK x = ltK y) : x = y := by
  have := lt_law.inj (lt_key hx) (by rw [h]; exact lt_key hy)
  cases x; cases y
  simpa [Lt.v] using this
end Go.Proofs.Ytmhmldpccccjbaa

namespace Go.Proofs.Ytmhmldpccccjbaa
open Go.RowKit
set_option linter.unusedVariables false
set_option linter.unusedSimpArgs false

/-- A net that carries letters of a byte. -/
structure C1 (n : NetA) : Prop where
  r : Right n
  b : ∀ x ∈ n.s, x.b.length = 1
  w : ∀ x ∈ n.s, ∀ y ∈ x.b, 0 ≤ y ∧ y < 256
def ltS (s : Sl) : Lt := ⟨s.f, s.t, s.b.headD 0⟩
def l0 : Lt := ⟨0, 0, 0⟩
theorem wf_i {x : Int} (h : -9223372036854775808 ≤ x ∧ x < 9223372036854775808) : (Lit.int .i64 x).wf = true := by
  simp only [Lit.wf, IntKind.min, IntKind.max, IntKind.signed, IntKind.bits, Bool.and_eq_true, decide_eq_true_eq]
  refine ⟨?_, ?_⟩
  · show -(2 ^ 63 : Int) ≤ x; omega
  · show x ≤ 2 ^ 63 - 1; omega
theorem wf_b {x : Int} (h : 0 ≤ x ∧ x < 256) : (Lit.int .u8 x).wf = true := by
  simp only [Lit.wf, IntKind.min, IntKind.max, IntKind.signed, IntKind.bits, Bool.and_eq_true]
  refine ⟨decide_eq_true ?_, decide_eq_true ?_⟩
  · show (0 : Int) ≤ x; omega
  · show x ≤ 2 ^ 8 - 1; omega
theorem l0_wf : l0.wf := ⟨wf_i (by decide), wf_i (by decide), wf_b (by decide)⟩
def cnt (s : List Sl) (x : Lt) : Int := (s.countP fun y => decide (ltS y = x) : Nat)
theorem cnt_ins (s : List Sl) (y : Sl) (x : Lt) : cnt (insS s y) x = cnt s x + if ltS y = x then 1 else 0 := by
  unfold cnt insS
  rw [List.countP_append, List.countP_append]
  have h : s.countP (fun y => decide (ltS y = x)) = (s.take (posS s y.a)).countP (fun y => decide (ltS y = x)) + (s.drop (posS s y.a)).countP (fun y => decide (ltS y = x)) := by
    rw [← List.countP_append, List.take_append_drop]
  rw [h]
  by_cases he : ltS y = x <;> simp [he] <;> omega
theorem cnt_del {s : List Sl} {k : Nat} {y : Sl} (hy : s[k]? = some y) (x : Lt) : cnt (delS s k) x = cnt s x - if ltS y = x then 1 else 0 := by
  obtain ⟨hk, rfl⟩ := List.getElem?_eq_some_iff.1 hy
  unfold cnt delS
  rw [List.countP_append]
  have h : s.countP (fun y => decide (ltS y = x)) = (s.take k).countP (fun y => decide (ltS y = x)) + (s.drop k).countP (fun y => decide (ltS y = x)) := by
    rw [← List.countP_append, List.take_append_drop]
  rw [h, List.drop_eq_getElem_cons hk, List.countP_cons]
  by_cases he : ltS s[k] = x <;> simp [he] <;> omega
theorem cnt_le (s : List Sl) (x : Lt) : 0 ≤ cnt s x ∧ cnt s x ≤ s.length := by
  unfold cnt
  have := List.countP_le_length (p := fun y => decide (ltS y = x)) (l := s)
  omega
section
variable {n : NetA}
theorem C1.rb (h : C1 n) : rightB n = true := right_is h.r
theorem C1.ok (h : C1 n) : n.Ok := right_ok h.r
theorem C1.len (h : C1 n) : n.s.length ≤ 80 := h.r.s.n
theorem C1.wf (h : C1 n) {x : Sl} (hx : x ∈ n.s) : (ltS x).wf := by
  have h1 := pkB_iff.1 (h.r.p x hx)
  have h2 : 0 ≤ x.b.headD 0 ∧ x.b.headD 0 < 256 := by
    have h3 := h.b x hx
    cases hb : x.b with
    | nil => simp
    | cons y r => exact h.w x hx y (by rw [hb]; simp)
  exact ⟨wf_i (by show -9223372036854775808 ≤ x.f ∧ x.f < 9223372036854775808; omega), wf_i (by show -9223372036854775808 ≤ x.t ∧ x.t < 9223372036854775808; omega), wf_b h2⟩
theorem c1_0 : C1 net0 := ⟨{ l := by simp [net0], s := by constructor <;> simp [net0], p := by simp [net0], d := by constructor <;> simp [net0] }, by simp [net0], by simp [net0]⟩
theorem delS_way {s : List Sl} (hs : WayS s) (k : Nat) : WayS (delS s k) := way_of (fun y hy => hs.w y ((delS_sub s k).subset hy)) (hs.o.sublist (delS_sub s k))
theorem C1.del (h : C1 n) (k : Nat) : C1 ⟨delS n.s k, n.l, n.d⟩ where
  r := ⟨h.r.l, delS_way h.r.s k, fun x hx => h.r.p x ((delS_sub n.s k).subset hx), h.r.d⟩
  b := fun x hx => h.b x ((delS_sub n.s k).subset hx)
  w := fun x hx => h.w x ((delS_sub n.s k).subset hx)
theorem C1.ins (h : C1 n) {i : Nat} {f t : Int} {b : List Int} (hi : hasS n.s (slotN n.l i) = false) (hp : pkB f t b.length = true) (hb : b.length = 1) (hw : ∀ y ∈ b, 0 ≤ y ∧ y < 256) : C1 ⟨insS n.s ⟨slotN n.l i, f, t, b⟩, slotN n.l i, n.d⟩ where
  r := ⟨by have := slotN_way n.l i; unfold inWay at this; exact (⟨by omega, by omega⟩ : 0 ≤ slotN n.l i ∧ slotN n.l i < 80), insS_way h.r.s (slotN_way n.l i) hi, fun x hx => by
    rcases insS_mem.1 hx with rfl | hx
    · exact hp
    · exact h.r.p x hx, h.r.d⟩
  b := fun x hx => by
    rcases insS_mem.1 hx with rfl | hx
    · exact hb
    · exact h.b x hx
  w := fun x hx => by
    rcases insS_mem.1 hx with rfl | hx
    · exact hw
    · exact h.w x hx
theorem insS_len (s : List Sl) (x : Sl) : (insS s x).length = s.length + 1 := by
  unfold insS
  have := posS_le s x.a
  simp
  omega
/-- What an act does: the net behind it, which letter, by how many it is more. -/
inductive DoR (n : NetA) (q a b v : Int) : NetA → Lt → Int → Prop
  | sendT (m : NetA) (s : Sl) (e : Int) (hq : q < 3) (hs : meantN n a = (s, e)) (hm : sendN n a [(b, [v])] = (m, 0)) (hl : n.s.length < m.s.length) : DoR n q a b v m ⟨a, b, v⟩ 1
  | sendS (m : NetA) (s : Sl) (e : Int) (hq : q < 3) (hs : meantN n a = (s, e)) (hm : sendN n a [(b, [v])] = (m, 0)) (hl : m.s.length ≤ n.s.length) : DoR n q a b v m l0 0
  | sendF (m : NetA) (s : Sl) (e e2 : Int) (hq : q < 3) (hs : meantN n a = (s, e)) (hm : sendN n a [(b, [v])] = (m, e2)) (he : e2 ≠ 0) : DoR n q a b v n l0 0
  | delT (m : NetA) (s : Sl) (e : Int) (hq : 3 ≤ q) (hq2 : q < 5) (hs : meantN n a = (s, e)) (hm : delivN n a = (m, s, 0)) (hb : s.b.length = 1) : DoR n q a b v m (ltS s) (-1)
  | delF (m : NetA) (s s2 : Sl) (e e2 : Int) (hq : 3 ≤ q) (hq2 : q < 5) (hs : meantN n a = (s, e)) (hm : delivN n a = (m, s2, e2)) (he : e2 ≠ 0) : DoR n q a b v n l0 0
  | loseT (m : NetA) (s : Sl) (e : Int) (hq : q = 5) (hs : meantN n a = (s, e)) (hm : loseN n a = (m, 0)) (hb : s.b.length = 1) : DoR n q a b v m (ltS s) (-1)
  | loseF (m : NetA) (s : Sl) (e e2 : Int) (hq : q = 5) (hs : meantN n a = (s, e)) (hm : loseN n a = (m, e2)) (he : e2 ≠ 0) : DoR n q a b v n l0 0
  | doubT (m : NetA) (s : Sl) (e : Int) (hq : q = 6) (hs : meantN n a = (s, e)) (hm : doubN n a = (m, 0)) (hb : s.b.length = 1) : DoR n q a b v m (ltS s) 1
  | doubF (m : NetA) (s : Sl) (e e2 : Int) (hq : q = 6) (hs : meantN n a = (s, e)) (hm : doubN n a = (m, e2)) (he : e2 ≠ 0) : DoR n q a b v n l0 0
  | partT (m : NetA) (s : Sl) (e : Int) (hq : q = 7) (hs : meantN n a = (s, e)) (hm : partN n a b = (m, 0)) : DoR n q a b v m l0 0
  | partF (m : NetA) (s : Sl) (e e2 : Int) (hq : q = 7) (hs : meantN n a = (s, e)) (hm : partN n a b = (m, e2)) (he : e2 ≠ 0) : DoR n q a b v n l0 0
  | mendT (m : NetA) (s : Sl) (e : Int) (hq : 8 ≤ q) (hs : meantN n a = (s, e)) (hm : mendN n a b = (m, 0)) : DoR n q a b v m l0 0
  | mendF (m : NetA) (s : Sl) (e e2 : Int) (hq : 8 ≤ q) (hs : meantN n a = (s, e)) (hm : mendN n a b = (m, e2)) (he : e2 ≠ 0) : DoR n q a b v n l0 0
/-- What is meant. -/
theorem C1.meant (h : C1 n) (a : Int) : (∃ e, e ≠ 0 ∧ (mtK n.s a).2 = e) ∨ ∃ (k : Nat) (x : Sl), n.s[k]? = some x ∧ mtK n.s a = ((k : Int), 0) := by
  rcases mt_cases h.rb a with ⟨_, h1⟩ | ⟨_, _, h1⟩ | ⟨_, k, x, h1, h2⟩
  · exact .inl ⟨2, by decide, by rw [h1]⟩
  · exact .inl ⟨4, by decide, by rw [h1]⟩
  · exact .inr ⟨k, x, h1, h2⟩
theorem C1.meant_k (h : C1 n) {a : Int} {k : Nat} {x : Sl} (hx : n.s[k]? = some x) (hk : mtK n.s a = ((k : Int), 0)) : meantN n a = (x, 0) := by
  unfold meantN
  rw [if_pos h.rb, hk]
  simp only [if_true, slotAt_k hx]
theorem C1.does (h : C1 n) {q : Int} (a b v : Int) (h0 : 0 ≤ q) : ∃ m l c, DoR n q a b v m l c := by
  obtain ⟨s, e, hs⟩ : ∃ s e, meantN n a = (s, e) := ⟨_, _, rfl⟩
  by_cases q3 : q < 3
  · obtain ⟨m, e2, hm⟩ : ∃ m e2, sendN n a [(b, [v])] = (m, e2) := ⟨_, _, rfl⟩
    by_cases he : e2 = 0
    · subst he
      rcases Nat.lt_or_ge n.s.length m.s.length with hl | hl
      · exact ⟨_, _, _, .sendT m s e q3 hs hm hl⟩
      · exact ⟨_, _, _, .sendS m s e q3 hs hm hl⟩
    · exact ⟨_, _, _, .sendF m s e e2 q3 hs hm he⟩
  by_cases q5 : q < 5
  · rcases h.meant a with ⟨e1, he1, h1⟩ | ⟨k, x, hx, hk⟩
    · obtain ⟨m, s2, e2, hm⟩ : ∃ m s2 e2, delivN n a = (m, s2, e2) := ⟨_, _, _, rfl⟩
      refine ⟨_, _, _, .delF m s s2 e e2 (by omega) q5 hs hm ?_⟩
      unfold delivN at hm
      rw [if_pos h.rb, if_neg (by rw [h1]; exact he1)] at hm
      injection hm with _ hm
      injection hm with _ hm
      rw [← hm, h1]
      exact he1
    · have hme := h.meant_k hx hk
      rw [hs] at hme
      injection hme with e1 e2
      subst e1
      by_cases hd : (s.f, s.t) ∈ n.d
      · refine ⟨_, _, _, .delF net0 s sl0 e 331 (by omega) q5 hs ?_ (by decide)⟩
        unfold delivN
        rw [if_pos h.rb, hk]
        simp only [if_true, slotAt_k hx]
        rw [if_pos hd]
      · refine ⟨_, _, _, .delT ⟨delS n.s k, n.l, n.d⟩ s e (by omega) q5 hs ?_ (h.b s (List.mem_of_getElem? hx))⟩
        unfold delivN
        rw [if_pos h.rb, hk]
        simp only [if_true, slotAt_k hx]
        rw [if_neg hd]
        simp
  by_cases q6 : q = 5
  · rcases h.meant a with ⟨e1, he1, h1⟩ | ⟨k, x, hx, hk⟩
    · obtain ⟨m, e2, hm⟩ : ∃ m e2, loseN n a = (m, e2) := ⟨_, _, rfl⟩
      refine ⟨_, _, _, .loseF m s e e2 q6 hs hm ?_⟩
      unfold loseN at hm
      rw [if_pos h.rb, if_neg (by rw [h1]; exact he1)] at hm
      injection hm with _ hm
      rw [← hm, h1]
      exact he1
    · have hme := h.meant_k hx hk
      rw [hs] at hme
      injection hme with e1 e2
      subst e1
      refine ⟨_, _, _, .loseT ⟨delS n.s k, n.l, n.d⟩ s e q6 hs ?_ (h.b s (List.mem_of_getElem? hx))⟩
      unfold loseN
      rw [if_pos h.rb, hk]
      simp
  by_cases q7 : q = 6
  · obtain ⟨m, e2, hm⟩ : ∃ m e2, doubN n a = (m, e2) := ⟨_, _, rfl⟩
    by_cases he : e2 = 0
    · subst he
      rcases h.meant a with ⟨e1, he1, h1⟩ | ⟨k, x, hx, hk⟩
      · unfold doubN at hm
        rw [if_pos h.rb, if_neg (by rw [h1]; exact he1)] at hm
        injection hm with _ hm
        exact absurd (h1.symm.trans hm) he1
      · have hme := h.meant_k hx hk
        rw [hs] at hme
        injection hme with e1 e2
        subst e1
        exact ⟨_, _, _, .doubT m s e q7 hs hm (h.b s (List.mem_of_getElem? hx))⟩
    · exact ⟨_, _, _, .doubF m s e e2 q7 hs hm he⟩
  by_cases q8 : q = 7
  · obtain ⟨m, e2, hm⟩ : ∃ m e2, partN n a b = (m, e2) := ⟨_, _, rfl⟩
    by_cases he : e2 = 0
    · subst he; exact ⟨_, _, _, .partT m s e q8 hs hm⟩
    · exact ⟨_, _, _, .partF m s e e2 q8 hs hm he⟩
  · obtain ⟨m, e2, hm⟩ : ∃ m e2, mendN n a b = (m, e2) := ⟨_, _, rfl⟩
    by_cases he : e2 = 0
    · subst he; exact ⟨_, _, _, .mendT m s e (by omega) hs hm⟩
    · exact ⟨_, _, _, .mendF m s e e2 (by omega) hs hm he⟩
/-- What it does to the letters. -/
structure Stp (n m : NetA) (l : Lt) (c : Int) : Prop where
  c1 : C1 m
  bd : -1 ≤ c ∧ c ≤ 1
  wf : l.wf
  e : ∀ x, cnt m.s x = cnt n.s x + if l = x then c else 0
theorem C1.same (h : C1 n) : Stp n n l0 0 := ⟨h, by omega, l0_wf, fun x => by simp⟩
theorem C1.fill (h : C1 n) {f t : Int} {bs : List Int} (hp : pkB f t bs.length = true) (hb : bs.length = 1) (hw : ∀ y ∈ bs, 0 ≤ y ∧ y < 256) :
    (fillN n.s n.l f t bs = (n.s, n.l, false)) ∨ ∃ i, fillN n.s n.l f t bs = (insS n.s ⟨slotN n.l i, f, t, bs⟩, slotN n.l i, true) ∧ Stp n ⟨insS n.s ⟨slotN n.l i, f, t, bs⟩, slotN n.l i, n.d⟩ ⟨f, t, bs.headD 0⟩ 1 := by
  cases hf : freeI n.s n.l with
  | none => exact .inl (by unfold fillN; rw [hf])
  | some i =>
    have h1 := (first_is hf).2.1
    have h2 : hasS n.s (slotN n.l i) = false := by simpa using h1
    have h3 := h.ins h2 hp hb hw
    exact .inr ⟨i, by unfold fillN; rw [hf], h3, by omega, h3.wf (x := ⟨slotN n.l i, f, t, bs⟩) (insS_mem.2 (.inl rfl)), fun x => cnt_ins _ _ _⟩
theorem C1.lost (h : C1 n) {k : Nat} {x : Sl} (hx : n.s[k]? = some x) : Stp n ⟨delS n.s k, n.l, n.d⟩ (ltS x) (-1) :=
  ⟨h.del k, by omega, h.wf (List.mem_of_getElem? hx), fun y => by
    show cnt (delS n.s k) y = _
    rw [cnt_del hx]
    split <;> omega⟩
theorem DoR.stp {q a b v : Int} {m : NetA} {l : Lt} {c : Int} (h : C1 n) (hv : 0 ≤ v ∧ v < 256) (hd : DoR n q a b v m l c) : Stp n m l c := by
  have send : ∀ m : NetA, sendN n a [(b, [v])] = (m, 0) → m = n ∨ (m.s.length = n.s.length + 1 ∧ Stp n m ⟨a, b, v⟩ 1) := fun m hm => by
    unfold sendN at hm
    rw [if_pos h.rb] at hm
    split at hm
    · injection hm with hm _
      unfold sendK at hm
      rw [List.foldl_cons, List.foldl_nil] at hm
      unfold sstep at hm
      simp only [] at hm
      split at hm
      · rename_i hp
        rcases h.fill hp.1 rfl (by simpa using hv) with h1 | ⟨i, h1, h2⟩
        · left; rw [← hm, h1]
        · right
          rw [h1] at hm
          rw [← hm]
          exact ⟨insS_len _ _, h2⟩
      · left; rw [← hm]
    · cases hm
  cases hd with
  | sendT m s e hq hs hm hl =>
    rcases send m hm with rfl | ⟨_, h1⟩
    · omega
    · exact h1
  | sendS m s e hq hs hm hl =>
    rcases send m hm with rfl | ⟨h1, _⟩
    · exact h.same
    · omega
  | sendF => exact h.same
  | delT m s e hq hq2 hs hm hb =>
    rcases h.meant a with ⟨e1, he1, h1⟩ | ⟨k, x, hx, hk⟩
    · unfold delivN at hm
      rw [if_pos h.rb, if_neg (by rw [h1]; exact he1)] at hm
      injection hm with _ hm
      injection hm with _ hm
      exact absurd (h1.symm.trans hm) he1
    · unfold delivN at hm
      rw [if_pos h.rb, hk] at hm
      simp only [if_true, slotAt_k hx] at hm
      split at hm
      · injection hm with _ hm
        injection hm with _ hm
        cases hm
      · injection hm with h1 hm
        injection hm with h2 _
        subst h2
        rw [← h1]
        simpa using h.lost hx
  | delF => exact h.same
  | loseT m s e hq hs hm hb =>
    rcases h.meant a with ⟨e1, he1, h1⟩ | ⟨k, x, hx, hk⟩
    · unfold loseN at hm
      rw [if_pos h.rb, if_neg (by rw [h1]; exact he1)] at hm
      injection hm with _ hm
      exact absurd (h1.symm.trans hm) he1
    · have hme := h.meant_k hx hk
      rw [hs] at hme
      injection hme with e1 e2
      subst e1
      unfold loseN at hm
      rw [if_pos h.rb, hk] at hm
      simp only [if_true] at hm
      injection hm with h1 _
      rw [← h1]
      simpa using h.lost hx
  | loseF => exact h.same
  | doubT m s e hq hs hm hb =>
    rcases h.meant a with ⟨e1, he1, h1⟩ | ⟨k, x, hx, hk⟩
    · unfold doubN at hm
      rw [if_pos h.rb, if_neg (by rw [h1]; exact he1)] at hm
      injection hm with _ hm
      exact absurd (h1.symm.trans hm) he1
    · have hme := h.meant_k hx hk
      rw [hs] at hme
      injection hme with e1 e2
      subst e1
      unfold doubN at hm
      rw [if_pos h.rb, hk] at hm
      simp only [if_true, slotAt_k hx] at hm
      have hmem := List.mem_of_getElem? hx
      unfold doubX at hm
      rcases h.fill (f := s.f) (t := s.t) (bs := s.b) (h.r.p s hmem) (h.b s hmem) (h.w s hmem) with h1 | ⟨i, h1, h2⟩
      · rw [h1] at hm
        simp at hm
      · rw [h1] at hm
        simp only [if_true] at hm
        injection hm with hm _
        rw [← hm]
        exact h2
  | doubF => exact h.same
  | partT m s e hq hs hm =>
    rcases part_cases n a b with ⟨h1, _⟩ | ⟨_, _, h1⟩ | ⟨_, _, _, h1⟩ | ⟨_, hp, hn, h1⟩
    · rw [h.rb] at h1; cases h1
    · rw [h1] at hm; cases hm
    · rw [h1] at hm; cases hm
    · rw [h1] at hm
      injection hm with hm _
      rw [← hm]
      exact ⟨⟨right_ins (x := (a, b)) h.r hp hn, h.b, h.w⟩, by omega, l0_wf, fun x => by simp⟩
  | partF => exact h.same
  | mendT m s e hq hs hm =>
    rcases mend_cases n a b with ⟨h1, _⟩ | ⟨_, _, h1⟩ | ⟨_, hp, hn, h1⟩ | ⟨_, _, _, h1⟩
    · rw [h.rb] at h1; cases h1
    · rw [h1] at hm; cases hm
    · rw [h1] at hm
      injection hm with hm _
      rw [← hm]
      exact ⟨⟨right_del (x := (a, b)) h.r, h.b, h.w⟩, by omega, l0_wf, fun x => by simp⟩
    · rw [h1] at hm; cases hm
  | mendF => exact h.same
end
end Go.Proofs.Ytmhmldpccccjbaa
