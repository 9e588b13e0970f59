/- Tables' pairs: their keys rise, and unlike tables have unlike pairs. Plain law. No condition. -/
import Derived.Test.YtpgfhkbnngjegaaGreatDoorTD
import Derived.Test.YtpgfhkbnngjegaaGreatDoorWQ
namespace Go.Proofs.YtpgfhkbnngjegaaGreatDoor
open Go.RowKit
set_option linter.unusedVariables false
set_option linter.unusedSimpArgs false
def isB1 (l : List Int) : Prop := ∀ c ∈ l, 0 ≤ c ∧ c < 256
theorem isB1.take {l : List Int} (h : isB1 l) (n : Nat) : isB1 (l.take n) := fun c hc => h c (List.mem_of_mem_take hc)
def cmpL : List Int → List Int → Int
  | [], [] => 0
  | [], _ :: _ => -1
  | _ :: _, [] => 1
  | x :: a, y :: b => if x < y then -1 else if x = y then cmpL a b else 1
theorem u8_n {x : Int} (h : 0 ≤ x ∧ x < 256) : ((UInt8.ofNat x.toNat).toNat : Int) = x := by
  rw [UInt8.toNat_ofNat']; omega
theorem u8_eq {x y : Int} (hx : 0 ≤ x ∧ x < 256) (hy : 0 ≤ y ∧ y < 256) : (UInt8.ofNat x.toNat = UInt8.ofNat y.toNat) = (x = y) := by
  have h1 := u8_n hx
  have h2 := u8_n hy
  rw [eq_iff_iff]
  exact ⟨fun h => by rw [h] at h1; omega, fun h => by rw [h]⟩
theorem cmpL_same (p : List Int) (a b : List Int) : cmpL (p ++ a) (p ++ b) = cmpL a b := by
  induction p with
  | nil => rfl
  | cons x p ih => simp [cmpL, ih]
def escL (l : List Int) : List Int := l.flatMap esc1 ++ [0, 0]
theorem escL_nil : escL [] = [0, 0] := rfl
theorem escL_cons (x : Int) (l : List Int) : escL (x :: l) = esc1 x ++ escL l := by simp [escL]
theorem cmp_esc : ∀ {u v : List Int}, isB1 u → isB1 v → cmpL (escL u) (escL v) = cmpL u v
  | [], [], _, _ => by decide
  | [], y :: b, _, h2 => by
    have hy := h2 y (by simp)
    rw [escL_nil, escL_cons]
    by_cases h : y = 0
    · subst h; simp [esc1, cmpL]
    · have : 0 < y := by omega
      simp [esc1, cmpL, h, this]
  | x :: a, [], h1, _ => by
    have hx := h1 x (by simp)
    rw [escL_nil, escL_cons]
    by_cases h : x = 0
    · subst h; simp [esc1, cmpL]
    · have h3 : ¬ x < 0 := by omega
      simp [esc1, cmpL, h, h3]
  | x :: a, y :: b, h1, h2 => by
    have hx := h1 x (by simp)
    have hy := h2 y (by simp)
    have ih := cmp_esc (u := a) (v := b) (fun c hc => h1 c (by simp [hc])) (fun c hc => h2 c (by simp [hc]))
    rw [escL_cons, escL_cons]
    by_cases h : x = y
    · subst h; rw [cmpL_same, ih]; simp [cmpL]
    · by_cases hx0 : x = 0
      · subst hx0
        have h3 : 0 < y := by omega
        have h4 : ¬ y = 0 := by omega
        simp [esc1, cmpL, h3, h4]
      · by_cases hy0 : y = 0
        · subst hy0
          have h3 : ¬ x < 0 := by omega
          simp [esc1, cmpL, h3, hx0]
        · simp [esc1, cmpL, hx0, hy0, h]
def beD (x : Int) : Nat → List Int
  | 0 => []
  | k + 1 => x / 256 ^ k % 256 :: beD x k
theorem dig_split (x : Int) (k : Nat) : x % 256 ^ (k + 1) = x / 256 ^ k % 256 * 256 ^ k + x % 256 ^ k ∧ 0 ≤ x % 256 ^ k ∧ x % 256 ^ k < 256 ^ k := by
  have hp : (0 : Int) < 256 ^ k := Int.pow_pos (by decide)
  refine ⟨?_, Int.emod_nonneg _ (by omega), Int.emod_lt_of_pos _ hp⟩
  have h1 := Int.emod_add_mul_ediv x (256 ^ k)
  have h2 := Int.emod_add_mul_ediv x (256 ^ (k + 1))
  have h3 := Int.emod_add_mul_ediv (x / 256 ^ k) 256
  have h4 : x / 256 ^ (k + 1) = x / 256 ^ k / 256 := by rw [Int.pow_succ, Int.ediv_ediv_of_nonneg (Int.le_of_lt hp)]
  rw [h4, Int.pow_succ] at h2
  rw [Int.pow_succ]
  generalize x / 256 ^ k = q at *
  generalize (256 : Int) ^ k = p at *
  have h5 : p * 256 * (q / 256) = p * (256 * (q / 256)) := Int.mul_assoc _ _ _
  have h6 : p * q = p * (q % 256) + p * (256 * (q / 256)) := by rw [← Int.mul_add, h3]
  have h7 : q % 256 * p = p * (q % 256) := Int.mul_comm _ _
  omega
theorem cmp_dig (m n : Int) : ∀ k, cmpL (beD m k) (beD n k) = cmpI (m % 256 ^ k) (n % 256 ^ k)
  | 0 => by simp [beD, cmpL, cmpI, Int.emod_one]
  | k + 1 => by
    have ih := cmp_dig m n k
    obtain ⟨a1, a2, a3⟩ := dig_split m k
    obtain ⟨b1, b2, b3⟩ := dig_split n k
    simp only [beD, cmpL]
    rw [ih, a1, b1]
    have hp : (0 : Int) < 256 ^ k := Int.pow_pos (by decide)
    have hx : 0 ≤ m / 256 ^ k % 256 := Int.emod_nonneg _ (by decide)
    have hy : 0 ≤ n / 256 ^ k % 256 := Int.emod_nonneg _ (by decide)
    generalize m / 256 ^ k % 256 = x at *
    generalize n / 256 ^ k % 256 = y at *
    generalize (256 : Int) ^ k = p at *
    generalize m % p = u at *
    generalize n % p = v at *
    rcases Int.lt_trichotomy x y with h | h | h
    · have h1 : x * p + p ≤ y * p := by
        have := Int.mul_le_mul_of_nonneg_right (show x + 1 ≤ y by omega) (Int.le_of_lt hp)
        rw [Int.add_mul, Int.one_mul] at this; exact this
      rw [if_pos h, cmpI, if_pos (by omega)]
    · subst h
      rw [if_neg (by omega), if_pos rfl]
      unfold cmpI
      by_cases h1 : u < v
      · rw [if_pos h1, if_pos (by omega)]
      · by_cases h2 : v < u
        · rw [if_neg h1, if_pos h2, if_neg (by omega), if_pos (by omega)]
        · rw [if_neg h1, if_neg h2, if_neg (by omega), if_neg (by omega)]
    · have h1 : y * p + p ≤ x * p := by
        have := Int.mul_le_mul_of_nonneg_right (show y + 1 ≤ x by omega) (Int.le_of_lt hp)
        rw [Int.add_mul, Int.one_mul] at this; exact this
      rw [if_neg (by omega), if_neg (by omega), cmpI, if_neg (by omega), if_pos (by omega)]
theorem be_dig (x : Int) : beN x 8 = beD x 8 := by
  have h : ∀ j : Nat, j < 8 → (2 : Int) ^ (8 * (7 - j)) = 256 ^ (7 - j) := fun j _ => by rw [Int.pow_mul]; rfl
  show [byt x 0, byt x 1, byt x 2, byt x 3, byt x 4, byt x 5, byt x 6, byt x 7] = _
  simp only [byt, h 0 (by decide), h 1 (by decide), h 2 (by decide), h 3 (by decide), h 4 (by decide), h 5 (by decide), h 6 (by decide), h 7 (by decide)]
  rfl
theorem cmp_be {m n : Int} (hm : 0 ≤ m ∧ m < 18446744073709551616) (hn : 0 ≤ n ∧ n < 18446744073709551616) : cmpL (beN m 8) (beN n 8) = cmpI m n := by
  rw [be_dig, be_dig, cmp_dig]
  have : (256 : Int) ^ 8 = 18446744073709551616 := by decide
  rw [this, Int.emod_eq_of_lt hm.1 hm.2, Int.emod_eq_of_lt hn.1 hn.2]
theorem cmpS_L : ∀ a b : List UInt8, cmpS a b = cmpL (a.map fun c => (c.toNat : Int)) (b.map fun c => (c.toNat : Int))
  | [], [] => by simp [cmpS, Op.bytesLess, cmpL]
  | [], y :: b => by simp [cmpS, Op.bytesLess, cmpL]
  | x :: a, [] => by simp [cmpS, Op.bytesLess, cmpL]
  | x :: a, y :: b => by
    have ih := cmpS_L a b
    simp only [List.map_cons, cmpL]
    rw [← ih]
    have e1 : ((x.toNat : Int) < (y.toNat : Int)) = (x < y) := by rw [UInt8.lt_iff_toNat_lt, eq_iff_iff]; omega
    have e2 : ((x.toNat : Int) = (y.toNat : Int)) = (x = y) := by rw [eq_iff_iff, UInt8.toNat_inj.symm]; omega
    simp only [e1, e2]
    unfold cmpS
    by_cases h1 : x < y
    · simp [Op.bytesLess, h1]
    · by_cases h2 : x = y
      · subst h2; simp [Op.bytesLess]
      · simp [Op.bytesLess, h1, h2]
theorem right_cases {v : Val} (h : rightB v = true) : (v.k = 1 ∧ v.n = 0 ∧ v.t = ⟨#[]⟩) ∨ (v.k = 2 ∧ (v.n = 0 ∨ v.n = 1) ∧ v.t = ⟨#[]⟩) ∨ (v.k = 3 ∧ v.t = ⟨#[]⟩) ∨ (v.k = 4 ∧ v.n = 0) := by
  simp only [rightB, Bool.or_eq_true, Bool.and_eq_true, decide_eq_true_eq, bsEq_t] at h
  rcases h with ((⟨⟨h1, h2⟩, h3⟩ | ⟨⟨h1, h2⟩, h3⟩) | ⟨h1, h2⟩) | ⟨⟨h1, h2⟩, h3⟩
  · exact .inl ⟨h1, h2, bs_ext h3⟩
  · exact .inr (.inl ⟨h1, h2, bs_ext h3⟩)
  · exact .inr (.inr (.inl ⟨h1, bs_ext h2⟩))
  · exact .inr (.inr (.inr ⟨h1, h2⟩))
theorem esc_is (u : ByteArray) : (bi u).flatMap esc1 ++ [0, 0] = escL (bi u) := rfl
theorem isB1_bi (u : ByteArray) : isB1 (bi u) := by
  intro c hc
  simp only [bi, List.mem_map] at hc
  obtain ⟨d, _, rfl⟩ := hc
  have := d.toNat_lt
  omega
theorem enc_1 {v : Val} (h : rightB v = true) (hk : v.k = 1) : encV v = [1] := by
  simp [encV, h, encB, hk]; decide
theorem enc_2 {v : Val} (h : rightB v = true) (hk : v.k = 2) (hn : v.n = 0 ∨ v.n = 1) : encV v = [2, v.n] := by
  rcases hn with hn | hn <;> simp [encV, h, encB, hk, hn] <;> decide
theorem enc_3 {v : Val} (h : rightB v = true) (hk : v.k = 3) : encV v = 3 :: beN (v.n + 9223372036854775808) 8 := by
  simp [encV, h, encB, hk]; decide
theorem enc_4 {v : Val} (h : rightB v = true) (hk : v.k = 4) : encV v = 4 :: escL (bi v.t) := by
  simp [encV, h, encB, hk, esc_is]; decide
theorem cmpI_self (x : Int) : cmpI x x = 0 := by simp [cmpI]
theorem cmpS_self (x : List UInt8) : cmpS x x = 0 := by
  have : Op.bytesLess x x = false := by
    induction x with
    | nil => rfl
    | cons c l ih => simp [Op.bytesLess, ih]
  simp [cmpS, this]
theorem cmpL_1 (x y : Int) : cmpL [x] [y] = cmpI x y := by
  unfold cmpL cmpI
  by_cases h1 : x < y
  · simp [h1]
  · by_cases h2 : x = y
    · subst h2; simp [cmpL]
    · have : y < x := by omega
      simp [h1, h2, this]
theorem orN_3 (x y z : Int) : orN [x, y, z] = if x = 0 then (if y = 0 then z else y) else x := by
  simp only [orN]
  by_cases h1 : x = 0 <;> by_cases h2 : y = 0 <;> by_cases h3 : z = 0 <;> simp [h1, h2, h3]
theorem right_enc {v : Val} (h : rightB v = true) : (v.k = 1 ∧ v.n = 0 ∧ v.t = ⟨#[]⟩ ∧ encV v = [1]) ∨ (v.k = 2 ∧ (v.n = 0 ∨ v.n = 1) ∧ v.t = ⟨#[]⟩ ∧ encV v = [2, v.n]) ∨ (v.k = 3 ∧ v.t = ⟨#[]⟩ ∧ encV v = 3 :: beN (v.n + 9223372036854775808) 8) ∨ (v.k = 4 ∧ v.n = 0 ∧ encV v = 4 :: escL (bi v.t)) := by
  rcases right_cases h with ⟨h1, h2, h3⟩ | ⟨h1, h2, h3⟩ | ⟨h1, h3⟩ | ⟨h1, h2⟩
  · exact .inl ⟨h1, h2, h3, enc_1 h h1⟩
  · exact .inr (.inl ⟨h1, h2, h3, enc_2 h h1 h2⟩)
  · exact .inr (.inr (.inl ⟨h1, h3, enc_3 h h1⟩))
  · exact .inr (.inr (.inr ⟨h1, h2, enc_4 h h1⟩))
theorem cmpL_cons (x : Int) (a b : List Int) : cmpL (x :: a) (x :: b) = cmpL a b := by simp [cmpL]
theorem cmpI_add (x y d : Int) : cmpI (x + d) (y + d) = cmpI x y := by
  unfold cmpI
  by_cases h1 : x < y
  · rw [if_pos h1, if_pos (by omega)]
  · by_cases h2 : y < x
    · rw [if_neg h1, if_pos h2, if_neg (by omega), if_pos (by omega)]
    · rw [if_neg h1, if_neg h2, if_neg (by omega), if_neg (by omega)]
theorem sorts_cmp {a b : Val} (ra : rightB a = true) (rb : rightB b = true) (ha : I64 a.n) (hb : I64 b.n) : cmpL (encV a) (encV b) = cmpV a b := by
  unfold cmpV
  rw [orN_3]
  rcases right_enc ra with ⟨h1, h2, h3, h4⟩ | ⟨h1, h2, h3, h4⟩ | ⟨h1, h3, h4⟩ | ⟨h1, h2, h4⟩ <;> rcases right_enc rb with ⟨g1, g2, g3, g4⟩ | ⟨g1, g2, g3, g4⟩ | ⟨g1, g3, g4⟩ | ⟨g1, g2, g4⟩ <;> rw [h4, g4, h1, g1]
  · rw [h2, g2, h3, g3, cmpI_self, cmpI_self, cmpS_self]; rfl
  · rfl
  · rfl
  · rfl
  · rfl
  · rw [cmpL_cons, cmpL_1, h3, g3, cmpI_self, cmpS_self, if_pos rfl]; split <;> simp_all
  · rfl
  · rfl
  · rfl
  · rfl
  · rw [cmpL_cons, cmp_be (by unfold I64 at ha; omega) (by unfold I64 at hb; omega), cmpI_add, h3, g3, cmpI_self, cmpS_self, if_pos rfl]; split <;> simp_all
  · rfl
  · rfl
  · rfl
  · rfl
  · rw [cmpL_cons, cmp_esc (isB1_bi _) (isB1_bi _), h2, g2, cmpI_self, cmpI_self, if_pos rfl, if_pos rfl, cmpS_L]; rfl
theorem cmpL_self : ∀ l : List Int, cmpL l l = 0
  | [] => rfl
  | x :: l => by simp [cmpL, cmpL_self l]
def prefB' (l l2 : List Int) : Bool := decide (l2.length ≤ l.length) && bsEq (strOfNums (l.take l2.length)) (strOfNums l2)
theorem esc_free : ∀ (v u r : List Int), escL v ++ r = escL u → v = u
  | [], [], _, _ => rfl
  | [], x :: u, r, h => by
    rw [escL_nil, escL_cons] at h
    by_cases hx : x = 0
    · subst hx; simp [esc1] at h
    · simp [esc1, hx] at h; exact absurd h.1.symm hx
  | y :: v, [], r, h => by
    rw [escL_nil, escL_cons] at h
    by_cases hy : y = 0
    · subst hy; simp [esc1] at h
    · simp [esc1, hy] at h
  | y :: v, x :: u, r, h => by
    rw [escL_cons, escL_cons] at h
    by_cases hy : y = 0 <;> by_cases hx : x = 0
    · subst hy; subst hx
      simp [esc1] at h
      rw [esc_free v u r h]
    · subst hy; simp [esc1, hx] at h; exact absurd h.1.symm hx
    · subst hx; simp [esc1, hy] at h
    · simp [esc1, hy, hx] at h
      rw [h.1, esc_free v u r h.2]
theorem num_inj : ∀ {l l2 : List Int}, isB1 l → isB1 l2 → strOfNums l = strOfNums l2 → l = l2 := by
  intro l l2 h1 h2 h
  have h3 : (l.map fun n => UInt8.ofNat n.toNat) = l2.map fun n => UInt8.ofNat n.toNat := congrArg bs h
  clear h
  induction l generalizing l2 with
  | nil => cases l2 <;> simp_all
  | cons x l ih =>
    cases l2 with
    | nil => simp at h3
    | cons y l2 =>
      simp only [List.map_cons, List.cons.injEq] at h3
      have h4 := h3.1
      rw [u8_eq (h1 x (by simp)) (h2 y (by simp))] at h4
      rw [h4, ih (fun c hc => h1 c (by simp [hc])) (fun c hc => h2 c (by simp [hc])) h3.2]
theorem isB1_esc (u : ByteArray) : isB1 (escL (bi u)) := by
  intro c hc
  simp only [escL, List.mem_append, List.mem_flatMap] at hc
  rcases hc with ⟨d, hd, hc⟩ | hc
  · have := isB1_bi u d hd
    unfold esc1 at hc
    split at hc <;> simp at hc <;> omega
  · simp at hc; omega
theorem isB1_be (x : Int) (j : Nat) : isB1 (beN x j) := by
  intro c hc
  simp only [beN, List.mem_map] at hc
  obtain ⟨i, _, rfl⟩ := hc
  unfold byt; omega
theorem isB1_enc {v : Val} (h : rightB v = true) : isB1 (encV v) := by
  rcases right_enc h with ⟨h1, h2, h3, h4⟩ | ⟨h1, h2, h3, h4⟩ | ⟨h1, h3, h4⟩ | ⟨h1, h2, h4⟩ <;> rw [h4] <;> intro c hc <;> simp only [List.mem_cons] at hc
  · simp at hc; omega
  · simp at hc; omega
  · rcases hc with rfl | hc
    · omega
    · exact isB1_be _ _ c hc
  · rcases hc with rfl | hc
    · omega
    · exact isB1_esc _ c hc
theorem bi_inj {u v : ByteArray} (h : bi u = bi v) : u = v := by
  apply bs_ext
  have : ∀ {a b : List UInt8}, (a.map fun c => (c.toNat : Int)) = b.map (fun c => (c.toNat : Int)) → a = b := by
    intro a
    induction a with
    | nil => intro b h; cases b <;> simp_all
    | cons x a ih =>
      intro b h
      cases b with
      | nil => simp at h
      | cons y b =>
        simp only [List.map_cons, List.cons.injEq] at h
        have h1 : x.toNat = y.toNat := by omega
        rw [UInt8.toNat_inj.1 h1, ih h.2]
  exact this h
theorem pfree {a b : Val} (ra : rightB a = true) (rb : rightB b = true) (ha : I64 a.n) (hb : I64 b.n) (hne : eqV a b = false) : prefB' (encV a) (encV b) = false := by
  by_cases h : prefB' (encV a) (encV b) = true
  · exfalso
    simp only [prefB', Bool.and_eq_true, decide_eq_true_eq, bsEq_t] at h
    have h5 := num_inj ((isB1_enc ra).take _) (isB1_enc rb) (bs_ext h.2)
    have h6 : encV b ++ (encV a).drop (encV b).length = encV a := by
      have := List.take_append_drop (encV b).length (encV a)
      rw [h5] at this
      exact this
    have key : a = b := by
      obtain ⟨k, n, t⟩ := a
      obtain ⟨k', n', t'⟩ := b
      generalize (encV _).drop _ = r at h6
      rcases right_enc ra with ⟨h1, h2, h3, h4⟩ | ⟨h1, h2, h3, h4⟩ | ⟨h1, h3, h4⟩ | ⟨h1, h2, h4⟩ <;> rcases right_enc rb with ⟨g1, g2, g3, g4⟩ | ⟨g1, g2, g3, g4⟩ | ⟨g1, g3, g4⟩ | ⟨g1, g2, g4⟩ <;> rw [h4, g4] at h6 <;> simp only [List.cons_append, List.cons.injEq] at h6 <;> simp only at * <;> first | (exfalso; omega) | skip
      · simp_all
      · simp_all
      · have e := (List.append_inj (show beN (n' + 9223372036854775808) 8 ++ r = beN (n + 9223372036854775808) 8 ++ [] by rw [List.append_nil]; exact h6.2) (by rw [beN_len, beN_len])).1
        have e2 := cmp_be (m := n' + 9223372036854775808) (n := n + 9223372036854775808) (by unfold I64 at hb; omega) (by unfold I64 at ha; omega)
        rw [e, cmpL_self] at e2
        have e3 : n' = n := by
          unfold cmpI at e2
          split at e2
          · omega
          · split at e2 <;> omega
        rw [h1, g1, h3, g3, e3]
      · rw [bi_inj (esc_free _ _ _ h6.2)]
        simp_all
    rw [key, eqV_self] at hne
    cases hne
  · simpa using h
end Go.Proofs.YtpgfhkbnngjegaaGreatDoor

namespace Go.Proofs.YtpgfhkbnngjegaaGreatDoor
open Go.RowKit
set_option linter.unusedVariables false
set_option linter.unusedSimpArgs false
/-- Pairs of tables that may be, nothing of others. -/
def prS (s : List Tbl) : List Cel := if stoB s = true then prL s else []
def ofN (l : List Int) : List UInt8 := l.map fun n => UInt8.ofNat n.toNat
theorem name_nz {s : ByteArray} (h : nameB s = true) : ∀ c ∈ bs s, c ≠ 0 := by
  intro c hc h0
  subst h0
  have hw : wordB s = true := by unfold nameB at h; simp only [Bool.and_eq_true] at h; exact h.1.1
  obtain ⟨j, hj⟩ := List.getElem?_of_mem hc
  have := word_no (s := s) (k := j) (y := 0) hj (by decide) (.inr (by decide))
  rw [this] at hw; cases hw
theorem bl_sep : ∀ {a b : List UInt8}, (∀ c ∈ b, c ≠ 0) → Op.bytesLess a b = true → ∀ x y, Op.bytesLess (a ++ 0 :: x) (b ++ 0 :: y) = true
  | a, [], _, h, _, _ => by cases a <;> simp [Op.bytesLess] at h
  | [], q :: b, hz, _, x, y => by
    have h0 := hz q (by simp)
    have h1 : (0 : UInt8) < q := by
      rw [UInt8.lt_iff_toNat_lt]
      have : q.toNat ≠ 0 := fun e => h0 (UInt8.toNat_inj.1 e)
      show 0 < q.toNat
      omega
    simp [Op.bytesLess, h1]
  | p :: a, q :: b, hz, h, x, y => by
    simp only [Op.bytesLess, Bool.or_eq_true, Bool.and_eq_true, decide_eq_true_eq, List.cons_append] at h ⊢
    rcases h with h | ⟨h1, h2⟩
    · exact .inl h
    · exact .inr ⟨h1, bl_sep (fun c hc => hz c (by simp [hc])) h2 x y⟩
theorem bl_pre (p a b : List UInt8) : Op.bytesLess (p ++ a) (p ++ b) = Op.bytesLess a b := by
  induction p with
  | nil => rfl
  | cons c p ih => simp [Op.bytesLess, ih]
theorem bl_one {p q : UInt8} (h : p < q) (a b : List UInt8) : Op.bytesLess (p :: a) (q :: b) = true := by simp [Op.bytesLess, h]
theorem bs_cat (a b : ByteArray) : bs (a ++ b) = bs a ++ bs b := by simp [bs]
theorem bs_nm (k : UInt8) (s : ByteArray) : bs (nmS k s) = k :: (bs s ++ [0]) := by
  unfold nmS
  rw [bs_cat, bs_cat]
  rfl
theorem bs_son (l : List Int) : bs (strOfNums l) = ofN l := rfl
theorem bs_rk (s : ByteArray) {v : Val} (h : rightB v = true) : bs (rkS s v) = 2 :: (bs s ++ 0 :: ofN (encV v)) := by
  rw [rkS, if_pos h, bs_cat, bs_nm, bs_son]
  simp
theorem ofN_back : ∀ {l : List Int}, isB1 l → (ofN l).map (fun c => (c.toNat : Int)) = l
  | [], _ => rfl
  | x :: l, h => by
    have h1 := ofN_back (l := l) fun c hc => h c (by simp [hc])
    unfold ofN at h1 ⊢
    simp only [List.map_cons]
    rw [h1, u8_n (h x (by simp))]
theorem enc_less {a b : Val} (ra : rightB a = true) (rb : rightB b = true) (ha : I64 a.n) (hb : I64 b.n) (h : cmpV a b < 0) : Op.bytesLess (ofN (encV a)) (ofN (encV b)) = true := by
  rw [← cmpS_lt, cmpS_L, ofN_back (isB1_enc ra), ofN_back (isB1_enc rb), sorts_cmp ra rb ha hb]
  exact h
theorem pw_of_adj {α : Type} {R : α → α → Prop} (tr : ∀ a b c : α, R a b → R b c → R a c) : ∀ {l : List α}, (∀ (j : Nat) (a b : α), l[j]? = some a → l[j + 1]? = some b → R a b) → l.Pairwise R
  | [], _ => .nil
  | [a], _ => List.pairwise_singleton _ _
  | a :: b :: l, h => by
    have ih : (b :: l).Pairwise R := pw_of_adj tr fun j x y hx hy => h (j + 1) x y (by simpa using hx) (by simpa using hy)
    have hab := h 0 a b rfl rfl
    refine List.pairwise_cons.2 ⟨fun x hx => ?_, ih⟩
    rcases List.mem_cons.1 hx with rfl | hx
    · exact hab
    · exact tr _ _ _ hab ((List.pairwise_cons.1 ih).1 x hx)
/-- What stands of one table of those that may be. -/
structure TabQ (t : Tbl) : Prop where
  F : TabF t
  n : nameB t.n = true
  g : goodB t.c = true
  rise : Rise (keyI t.c) t.r
  I : t.In
theorem tab_G {t : Tbl} (h : tabB t = true) (hI : t.In) : TabQ t := by
  have hF := tab_F h
  unfold tabB at h
  simp only [Bool.and_eq_true, decide_eq_true_eq] at h
  obtain ⟨⟨h1, h2⟩, h3⟩ := h
  unfold headB at h1
  simp only [Bool.and_eq_true, decide_eq_true_eq] at h1
  obtain ⟨⟨⟨⟨g1, g2⟩, g3⟩, g4⟩, g5⟩ := h1
  exact ⟨hF, g1, g5, (rowsB_iff2.1 h3).2, hI⟩
def nmR (t u : Tbl) : Prop := Op.bytesLess (bs t.n) (bs u.n) = true
structure StoQ (s : List Tbl) : Prop where
  t : ∀ t ∈ s, TabQ t
  pw : s.Pairwise nmR
theorem sto_G {s : List Tbl} (h : stoB s = true) (hI : ∀ t ∈ s, t.In) : StoQ s := by
  have hF := sto_F h
  refine ⟨fun t ht => tab_G (hF.2 t ht) (hI t ht), ?_⟩
  have := ((stF_iff (Nat.le_refl _)).1 h).2.2
  exact pw_of_adj (R := nmR) (fun _ _ _ h1 h2 => bl_trans _ _ _ h1 h2) fun j a b ha hb => this j a b (List.getElem?_eq_some_iff.1 hb).1 ha hb
theorem StoQ.tail {t : Tbl} {s : List Tbl} (h : StoQ (t :: s)) : StoQ s := ⟨fun x hx => h.t x (by simp [hx]), (List.pairwise_cons.1 h.pw).2⟩
/-- A row's key. -/
theorem key_in {t : Tbl} (h : TabQ t) {r : List Val} (hr : r ∈ t.r) : rightB (vAt r (keyI t.c)) = true ∧ I64 (vAt r (keyI t.c)).n := by
  have h1 := key_at h.F hr
  have h2 : vAt r (keyI t.c) = r[(keyI t.c).toNat] := by simp [vAt, h1]
  have h3 : r[(keyI t.c).toNat] ∈ r := List.getElem_mem _
  have h4 := List.all_eq_true.1 (row_ok (h.F.w r hr)) _ h3
  have h5 := (h.I.r r hr).2 _ h3
  rw [h2]
  exact ⟨h4, h5.2.2.1, h5.2.2.2.1⟩
def KR (x y : Cel) : Prop := Op.bytesLess (bs x.k) (bs y.k) = true
def rwsP (s : List Tbl) : List Cel := s.flatMap fun t => t.r.map (rwP t)
theorem prL_is (s : List Tbl) : prL s = s.map hdP ++ rwsP s := by
  unfold prL pr2 rwsP
  rw [List.take_length]
theorem rows_1 {t : Tbl} (h : TabQ t) : (t.r.map (rwP t)).Pairwise KR := by
  rw [List.pairwise_map]
  refine h.rise.imp_of_mem fun {x y} hx hy hxy => ?_
  have k1 := key_in h hx
  have k2 := key_in h hy
  show Op.bytesLess (bs (rkS t.n _)) (bs (rkS t.n _)) = true
  rw [bs_rk _ k1.1, bs_rk _ k2.1]
  have := bl_pre (2 :: (bs t.n ++ [0])) (ofN (encV (vAt x (keyI t.c)))) (ofN (encV (vAt y (keyI t.c))))
  simp only [List.cons_append, List.append_assoc, List.nil_append] at this
  rw [this]
  exact enc_less k1.1 k2.1 k1.2 k2.2 (ltV_iff.1 hxy)
theorem rows_2 {t u : Tbl} (h : TabQ t) (hu : TabQ u) (hn : nmR t u) {x y : Cel} (hx : x ∈ t.r.map (rwP t)) (hy : y ∈ u.r.map (rwP u)) : KR x y := by
  obtain ⟨r, hr, rfl⟩ := List.mem_map.1 hx
  obtain ⟨r2, hr2, rfl⟩ := List.mem_map.1 hy
  show Op.bytesLess (bs (rkS t.n _)) (bs (rkS u.n _)) = true
  rw [bs_rk _ (key_in h hr).1, bs_rk _ (key_in hu hr2).1]
  exact (bl_pre [2] _ _).trans (bl_sep (name_nz hu.n) hn _ _)
theorem rows_rise2 : ∀ {s : List Tbl}, StoQ s → (rwsP s).Pairwise KR
  | [], _ => .nil
  | t :: s, h => by
    have hpw := List.pairwise_cons.1 h.pw
    show ((t.r.map (rwP t)) ++ rwsP s).Pairwise KR
    refine List.pairwise_append.2 ⟨rows_1 (h.t t (by simp)), rows_rise2 h.tail, fun x hx y hy => ?_⟩
    obtain ⟨u, hu, hy⟩ := List.mem_flatMap.1 hy
    exact rows_2 (h.t t (by simp)) (h.t u (by simp [hu])) (hpw.1 u hu) hx hy
theorem rk_hd {s : List Tbl} (h : StoQ s) {y : Cel} (hy : y ∈ rwsP s) : ∃ l, bs y.k = 2 :: l := by
  obtain ⟨u, hu, hy⟩ := List.mem_flatMap.1 hy
  obtain ⟨r, hr, rfl⟩ := List.mem_map.1 hy
  exact ⟨_, bs_rk _ (key_in (h.t u hu) hr).1⟩
theorem prL_rise {s : List Tbl} (h : StoQ s) : (prL s).Pairwise KR := by
  rw [prL_is]
  refine List.pairwise_append.2 ⟨?_, rows_rise2 h, fun x hx y hy => ?_⟩
  · rw [List.pairwise_map]
    refine h.pw.imp_of_mem fun {t u} ht hu htu => ?_
    show Op.bytesLess (bs (nmS 1 t.n)) (bs (nmS 1 u.n)) = true
    rw [bs_nm, bs_nm]
    exact (bl_pre [1] _ _).trans (bl_sep (name_nz (h.t u hu).n) htu _ _)
  · obtain ⟨t, ht, rfl⟩ := List.mem_map.1 hx
    obtain ⟨l, hl⟩ := rk_hd h hy
    show Op.bytesLess (bs (nmS 1 t.n)) (bs y.k) = true
    rw [hl, bs_nm]
    exact bl_one (by decide) _ _
theorem prS_rise {s : List Tbl} (hI : ∀ t ∈ s, t.In) {k : Nat} {x y : Cel} (hk : 0 < k) (hx : (prS s)[k - 1]? = some x) (hy : (prS s)[k]? = some y) : Op.bytesLess (bs x.k) (bs y.k) = true := by
  cases h : stoB s with
  | false => simp [prS, h] at hx
  | true =>
    have e : prS s = prL s := by simp [prS, h]
    rw [e] at hx hy
    obtain ⟨h1, rfl⟩ := List.getElem?_eq_some_iff.1 hx
    obtain ⟨h2, rfl⟩ := List.getElem?_eq_some_iff.1 hy
    exact List.pairwise_iff_getElem.1 (prL_rise (sto_G h hI)) (k - 1) k h1 h2 (by omega)
theorem prS_len (s : List Tbl) : (prS s).length ≤ 100000 := by
  cases h : stoB s with
  | false => simp [prS, h]
  | true =>
    have e : prS s = prL s := by simp [prS, h]
    rw [e]
    have hF := PRH.of h
    have h1 := pr2_len hF.F s.length
    have h2 := hF.n
    unfold prL
    omega
/-- The same, told by equality. -/
theorem smL_iff {α : Type} {q : α → α → Bool} (hq : ∀ x y, q x y = true ↔ x = y) : ∀ {l m : List α}, smL q l m = true ↔ l = m
  | [], [] => by simp [smL]
  | [], y :: m => by simp [smL]
  | x :: l, [] => by simp [smL]
  | x :: l, y :: m => by
    simp only [smL, Bool.and_eq_true, hq, smL_iff hq (l := l) (m := m), List.cons.injEq]
theorem bsEq_e {a b : ByteArray} : bsEq a b = true ↔ a = b := by
  rw [bsEq_t]
  exact ⟨bs_ext, fun h => by rw [h]⟩
theorem vlE_iff (x y : Val) : vlE x y = true ↔ x = y := by
  cases x; cases y
  simp only [vlE, Bool.and_eq_true, decide_eq_true_eq, bsEq_e, Val.mk.injEq, and_assoc]
theorem dfE_iff (x y : Dfn) : dfE x y = true ↔ x = y := by
  cases x; cases y
  simp only [dfE, Bool.and_eq_true, decide_eq_true_eq, bsEq_e, Dfn.mk.injEq, and_assoc]
theorem clE_iff (x y : Cel) : clE x y = true ↔ x = y := by
  cases x; cases y
  simp only [clE, Bool.and_eq_true, bsEq_e, Cel.mk.injEq]
theorem tbE_iff (x y : Tbl) : tbE x y = true ↔ x = y := by
  cases x; cases y
  simp only [tbE, Bool.and_eq_true, bsEq_e, smL_iff dfE_iff, smL_iff (fun l m => smL_iff vlE_iff (l := l) (m := m)), Tbl.mk.injEq, and_assoc]
/-- Rows are told by their bytes. -/
theorem enc_pre {a b : Val} (ra : rightB a = true) (rb : rightB b = true) (ha : I64 a.n) (hb : I64 b.n) {x y : List Int} (h : encV a ++ x = encV b ++ y) (hl : (encV b).length ≤ (encV a).length) : a = b := by
  cases he : eqV a b with
  | true => exact eqV_t he
  | false =>
    have h1 := pfree ra rb ha hb he
    have h2 : (encV a).take (encV b).length = encV b := by
      have h3 := congrArg (List.take (encV b).length) h
      rw [List.take_append_of_le_length hl, List.take_left' rfl] at h3
      exact h3
    simp [prefB', h2, hl, bsEq] at h1
theorem encL_inj : ∀ {r m : List Val}, r.length = m.length → (∀ v ∈ r, rightB v = true ∧ I64 v.n) → (∀ v ∈ m, rightB v = true ∧ I64 v.n) → r.flatMap encV = m.flatMap encV → r = m
  | [], [], _, _, _, _ => rfl
  | [], _ :: _, h, _, _, _ => by simp at h
  | _ :: _, [], h, _, _, _ => by simp at h
  | a :: r, b :: m, h, h1, h2, he => by
    simp only [List.flatMap_cons] at he
    have ha := h1 a (by simp)
    have hb := h2 b (by simp)
    have e : a = b := by
      rcases Nat.le_total (encV b).length (encV a).length with hl | hl
      · exact enc_pre ha.1 hb.1 ha.2 hb.2 he hl
      · exact (enc_pre hb.1 ha.1 hb.2 ha.2 he.symm hl).symm
    subst e
    rw [encL_inj (by simpa using h) (fun v hv => h1 v (by simp [hv])) (fun v hv => h2 v (by simp [hv])) (List.append_cancel_left he)]
theorem isB1_fm {α : Type} {f : α → List Int} {l : List α} (h : ∀ x ∈ l, isB1 (f x)) : isB1 (l.flatMap f) := fun c hc => by
  obtain ⟨x, hx, hc⟩ := List.mem_flatMap.1 hc
  exact h x hx c hc
theorem rb_inj {r m : List Val} (hl : r.length = m.length) (h1 : ∀ v ∈ r, rightB v = true ∧ I64 v.n) (h2 : ∀ v ∈ m, rightB v = true ∧ I64 v.n) (h : rbS r = rbS m) : r = m := by
  have o1 : okR r = true := List.all_eq_true.2 fun v hv => (h1 v hv).1
  have o2 : okR m = true := List.all_eq_true.2 fun v hv => (h2 v hv).1
  unfold rbS encR at h
  rw [if_pos o1, if_pos o2, List.take_length, List.take_length] at h
  exact encL_inj hl h1 h2 (num_inj (isB1_fm fun v hv => isB1_enc (h1 v hv).1) (isB1_fm fun v hv => isB1_enc (h2 v hv).1) h)
theorem map_inj_in {α β : Type} {f g : α → β} : ∀ {l m : List α}, (∀ x ∈ l, ∀ y ∈ m, f x = g y → x = y) → l.map f = m.map g → l = m
  | [], [], _, _ => rfl
  | [], _ :: _, _, h => by simp at h
  | _ :: _, [], _, h => by simp at h
  | x :: l, y :: m, hi, h => by
    simp only [List.map_cons, List.cons.injEq] at h
    rw [hi x (by simp) y (by simp) h.1, map_inj_in (fun a ha b hb => hi a (by simp [ha]) b (by simp [hb])) h.2]
/-- Columns are told by their bytes. -/
theorem hdD_inj {d e : Dfn} (hd : colB d = true) (he : colB e = true) {x y : List Int} (h : hdD d ++ x = hdD e ++ y) : d = e ∧ x = y := by
  unfold colB at hd he
  simp only [Bool.and_eq_true, decide_eq_true_eq, Bool.not_eq_true'] at hd he
  obtain ⟨⟨d1, d2, d3⟩, d4⟩ := hd
  obtain ⟨⟨e1, e2, e3⟩, e4⟩ := he
  have n1 := name_len d1
  have n2 := name_len e1
  unfold hdD at h
  simp only [List.cons_append, List.append_assoc, List.cons.injEq] at h
  obtain ⟨h1, h2⟩ := h
  simp only [wrs] at h1
  have hsz : d.n.size = e.n.size := by omega
  obtain ⟨h3, h4⟩ := List.append_inj h2 (by rw [numS_len, numS_len, hsz])
  simp only [List.nil_append, List.cons_append, List.cons.injEq] at h4
  obtain ⟨h5, h6, h7⟩ := h4
  simp only [wrs] at h5
  have h8 : d.n = e.n := bi_inj h3
  have h9 : d.t = e.t := by omega
  refine ⟨?_, h7⟩
  obtain ⟨n, t, k, nn⟩ := d
  obtain ⟨n', t', k', nn'⟩ := e
  simp only at h8 h9 d4 e4
  subst h8 h9
  simp only [flgN] at h6
  cases k <;> cases nn <;> cases k' <;> cases nn' <;> simp_all
theorem hdF_inj : ∀ {c e : List Dfn}, (∀ d ∈ c, colB d = true) → (∀ d ∈ e, colB d = true) → c.flatMap hdD = e.flatMap hdD → c = e
  | [], [], _, _, _ => rfl
  | [], d :: e, _, _, h => by simp [hdD] at h
  | d :: c, [], _, _, h => by simp [hdD] at h
  | d :: c, x :: e, h1, h2, h => by
    simp only [List.flatMap_cons] at h
    obtain ⟨h3, h4⟩ := hdD_inj (h1 d (by simp)) (h2 x (by simp)) h
    rw [h3, hdF_inj (fun a ha => h1 a (by simp [ha])) (fun a ha => h2 a (by simp [ha])) h4]
theorem good_cols {c : List Dfn} (h : goodB c = true) : ∀ d ∈ c, colB d = true := fun d hd => by
  obtain ⟨j, hj, rfl⟩ := List.getElem_of_mem hd
  exact (goodB_iff.1 h).1 j _ hj (List.getElem?_eq_getElem hj)
theorem isB1_hd {c : List Dfn} : isB1 (hdL c) := by
  have hw : ∀ x : Int, 0 ≤ IntKind.u8.wrap x ∧ IntKind.u8.wrap x < 256 := fun x => by simp only [wrs]; omega
  intro x hx
  unfold hdL hdK at hx
  rcases List.mem_cons.1 hx with rfl | hx
  · exact hw _
  · obtain ⟨d, _, hx⟩ := List.mem_flatMap.1 hx
    unfold hdD at hx
    simp only [List.mem_cons, List.mem_append, List.not_mem_nil, or_false] at hx
    rcases hx with rfl | hx | rfl | rfl
    · exact hw _
    · obtain ⟨j, hj⟩ := List.getElem?_of_mem hx
      exact numS_at hj
    · exact hw _
    · unfold flgN; split
      · omega
      · split <;> omega
theorem hdP_inj {t u : Tbl} (ht : TabQ t) (hu : TabQ u) (h : hdP t = hdP u) : t.n = u.n ∧ t.c = u.c := by
  unfold hdP at h
  simp only [Cel.mk.injEq] at h
  obtain ⟨h1, h2⟩ := h
  constructor
  · have h3 := congrArg bs h1
    rw [bs_nm, bs_nm] at h3
    simp only [List.cons.injEq, true_and] at h3
    exact bs_ext (List.append_cancel_right h3)
  · have h3 := num_inj isB1_hd isB1_hd h2
    unfold hdL hdK at h3
    simp only [List.take_length, List.cons.injEq] at h3
    exact hdF_inj (good_cols ht.g) (good_cols hu.g) h3.2
theorem zsep : ∀ {a b x y : List UInt8}, (∀ c ∈ a, c ≠ 0) → (∀ c ∈ b, c ≠ 0) → a ++ 0 :: x = b ++ 0 :: y → a = b
  | [], [], _, _, _, _, _ => rfl
  | [], c :: b, x, y, _, h2, h => by
    simp only [List.nil_append, List.cons_append, List.cons.injEq] at h
    exact absurd h.1.symm (h2 c (by simp))
  | c :: a, [], x, y, h1, _, h => by
    simp only [List.nil_append, List.cons_append, List.cons.injEq] at h
    exact absurd h.1 (h1 c (by simp))
  | c :: a, d :: b, x, y, h1, h2, h => by
    simp only [List.cons_append, List.cons.injEq] at h
    rw [h.1, zsep (fun z hz => h1 z (by simp [hz])) (fun z hz => h2 z (by simp [hz])) h.2]
/-- Does a pair's key tell a row of this table? -/
def ofT (n : ByteArray) (x : Cel) : Bool := (2 :: (bs n ++ [0])).isPrefixOf (bs x.k)
theorem of_own {t : Tbl} (h : TabQ t) : ∀ x ∈ t.r.map (rwP t), ofT t.n x = true := fun x hx => by
  obtain ⟨r, hr, rfl⟩ := List.mem_map.1 hx
  unfold ofT rwP
  simp only
  rw [bs_rk _ (key_in h hr).1, List.isPrefixOf_iff_prefix]
  exact ⟨ofN (encV (vAt r (keyI t.c))), by simp⟩
theorem of_other {t u : Tbl} (h : TabQ t) (hu : TabQ u) (hn : t.n ≠ u.n) : ∀ x ∈ u.r.map (rwP u), ofT t.n x = false := fun x hx => by
  obtain ⟨r, hr, rfl⟩ := List.mem_map.1 hx
  cases hh : ofT t.n (rwP u r) with
  | false => rfl
  | true =>
    exfalso
    unfold ofT rwP at hh
    simp only at hh
    rw [bs_rk _ (key_in hu hr).1, List.isPrefixOf_iff_prefix] at hh
    obtain ⟨z, hz⟩ := hh
    simp only [List.cons_append, List.append_assoc, List.nil_append, List.cons.injEq, true_and] at hz
    exact hn (bs_ext (zsep (name_nz h.n) (name_nz hu.n) hz))
theorem nm_ne {t u : Tbl} (h : nmR t u) : t.n ≠ u.n := fun e => by
  unfold nmR at h
  rw [e] at h
  have := bl_asym _ _ h
  rw [h] at this; cases this
theorem of_rest {t : Tbl} {s : List Tbl} (h : TabQ t) (hs : StoQ s) (hn : ∀ u ∈ s, t.n ≠ u.n) : (rwsP s).filter (ofT t.n) = [] := by
  rw [List.filter_eq_nil_iff]
  intro x hx
  obtain ⟨u, hu, hx⟩ := List.mem_flatMap.1 hx
  simp [of_other h (hs.t u hu) (hn u hu) x hx]
theorem rows_val {t : Tbl} (h : TabQ t) {r : List Val} (hr : r ∈ t.r) : r.length = t.c.length ∧ ∀ v ∈ r, rightB v = true ∧ I64 v.n := by
  refine ⟨rowB_len (h.F.w r hr), fun v hv => ?_⟩
  have h4 := List.all_eq_true.1 (row_ok (h.F.w r hr)) _ hv
  have h5 := (h.I.r r hr).2 _ hv
  exact ⟨h4, h5.2.2.1, h5.2.2.2.1⟩
theorem rwsP_inj : ∀ {a b : List Tbl}, StoQ a → StoQ b → a.map hdP = b.map hdP → rwsP a = rwsP b → a = b
  | [], [], _, _, _, _ => rfl
  | [], _ :: _, _, _, h, _ => by simp at h
  | _ :: _, [], _, _, h, _ => by simp at h
  | t :: a, u :: b, ha, hb, h, h2 => by
    simp only [List.map_cons, List.cons.injEq] at h
    have ht := ha.t t (by simp)
    have hu := hb.t u (by simp)
    obtain ⟨hn, hc⟩ := hdP_inj ht hu h.1
    have pa := (List.pairwise_cons.1 ha.pw).1
    have pb := (List.pairwise_cons.1 hb.pw).1
    have h3 : t.r.map (rwP t) ++ rwsP a = u.r.map (rwP u) ++ rwsP b := h2
    have h4 := congrArg (List.filter (ofT t.n)) h3
    rw [List.filter_append, List.filter_append, of_rest ht ha.tail fun x hx => nm_ne (pa x hx), List.filter_eq_self.2 (of_own ht), hn, of_rest hu hb.tail fun x hx => nm_ne (pb x hx), List.filter_eq_self.2 (of_own hu), List.append_nil, List.append_nil] at h4
    rw [h4] at h3
    have h5 := List.append_cancel_left h3
    have h6 : t.r = u.r := map_inj_in (fun x hx y hy he => by
      have vx := rows_val ht hx
      have vy := rows_val hu hy
      unfold rwP at he
      simp only [Cel.mk.injEq] at he
      exact rb_inj (by rw [vx.1, vy.1, hc]) vx.2 vy.2 he.2) h4
    have h7 : t = u := by
      cases t; cases u
      simp only at hn hc h6
      rw [hn, hc, h6]
    rw [h7, rwsP_inj ha.tail hb.tail h.2 h5]
def isHd (x : Cel) : Bool := (bs x.k).head? == some 1
theorem prL_inj {a b : List Tbl} (ha : StoQ a) (hb : StoQ b) (h : prL a = prL b) : a = b := by
  have hd : ∀ s : List Tbl, ∀ x ∈ s.map hdP, isHd x = true := fun s x hx => by
    obtain ⟨t, _, rfl⟩ := List.mem_map.1 hx
    unfold isHd hdP
    simp only
    rw [bs_nm]
    rfl
  have rw_ : ∀ {s : List Tbl}, StoQ s → ∀ x ∈ rwsP s, isHd x = false := fun hs x hx => by
    obtain ⟨l, hl⟩ := rk_hd hs hx
    unfold isHd
    rw [hl]
    rfl
  rw [prL_is, prL_is] at h
  have h1 := congrArg (List.filter isHd) h
  have n0 : ∀ {s : List Tbl}, StoQ s → (rwsP s).filter isHd = [] := fun hs => by
    rw [List.filter_eq_nil_iff]
    intro x hx
    simp [rw_ hs x hx]
  rw [List.filter_append, List.filter_append, List.filter_eq_self.2 (hd a), List.filter_eq_self.2 (hd b), n0 ha, n0 hb, List.append_nil, List.append_nil] at h1
  rw [h1] at h
  exact rwsP_inj ha hb h1 (List.append_cancel_left h)
theorem prS_same {a b : List Tbl} (ha : ∀ t ∈ a, t.In) (hb : ∀ t ∈ b, t.In) (h : stoB a = true) (h2 : stoB b = true) : smL clE (prS a) (prS b) = smL tbE a b := by
  have e1 : prS a = prL a := by simp [prS, h]
  have e2 : prS b = prL b := by simp [prS, h2]
  rw [e1, e2, Bool.eq_iff_iff, smL_iff clE_iff, smL_iff tbE_iff]
  exact ⟨prL_inj (sto_G h ha) (sto_G h2 hb), fun e => by rw [e]⟩
end Go.Proofs.YtpgfhkbnngjegaaGreatDoor
