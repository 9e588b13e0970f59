/- Values: their bytes stand in their order, and none's begin with another's. No condition. -/
import Derived.Test.YtdcemcobldpcnaaDoorVC
namespace Go.Proofs.YtdcemcobldpcnaaDoor
open Go.RowKit
set_option linter.unusedVariables false
set_option linter.unusedSimpArgs false
def cmpU : List UInt8 → List UInt8 → Int
  | [], [] => 0
  | [], _ :: _ => -1
  | _ :: _, [] => 1
  | x :: a, y :: b => if x < y then -1 else if x = y then cmpU a b else 1
def cmpF (xs ys : List UInt8) : Int := match (List.range (min xs.length ys.length)).find? fun i => xs[i]! != ys[i]! with
  | some i => if xs[i]! < ys[i]! then -1 else 1
  | none => if xs.length < ys.length then -1 else if xs.length > ys.length then 1 else 0
theorem cmpF_eq : ∀ xs ys, cmpF xs ys = cmpU xs ys
  | [], [] => rfl
  | [], y :: b => by simp [cmpF, cmpU]
  | x :: a, [] => by simp [cmpF, cmpU]
  | x :: a, y :: b => by
    have ih := cmpF_eq a b
    unfold cmpF at ih ⊢
    rw [cmpU]
    have h1 : min (x :: a).length (y :: b).length = min a.length b.length + 1 := by simp only [List.length_cons]; omega
    rw [h1, List.range_succ_eq_map, List.find?_cons]
    by_cases hxy : x = y
    · subst hxy
      have h2 : ((x :: a)[0]! != (x :: b)[0]!) = false := by simp
      have h3 : ((fun i => (x :: a)[i]! != (x :: b)[i]!) ∘ Nat.succ) = fun i => a[i]! != b[i]! := by funext i; simp
      have h4 : (if x < x then (-1 : Int) else if x = x then cmpU a b else 1) = cmpU a b := by simp
      rw [h4, ← ih, h2, List.find?_map]
      simp only [h3]
      cases (List.range (min a.length b.length)).find? (fun i => a[i]! != b[i]!) <;> simp
    · have h2 : ((x :: a)[0]! != (y :: b)[0]!) = true := by simp [hxy]
      rw [h2]
      simp [hxy]
theorem bs_at (u : ByteArray) (i : Nat) : u[i]! = (bs u)[i]! := by
  by_cases h : i < u.size
  · have h2 : i < (bs u).length := by rw [bs_size]; exact h
    rw [getElem!_pos u i h, getElem!_pos (bs u) i h2]
    rfl
  · have h2 : ¬ i < (bs u).length := by rw [bs_size]; exact h
    rw [getElem!_neg u i h, getElem!_neg (bs u) i h2]
theorem cmp_bs (u v : ByteArray) : Extern.BytealgCompare.cmp u v = cmpU (bs u) (bs v) := by
  rw [← cmpF_eq]
  unfold Extern.BytealgCompare.cmp cmpF
  simp only [bs_at, bs_size]
  rfl
def cmpL : List Int → List Int → Int
  | [], [] => 0
  | [], _ :: _ => -1
  | _ :: _, [] => 1
  | x :: a, y :: b => if x < y then -1 else if x = y then cmpL a b else 1
theorem u8_n {x : Int} (h : 0 ≤ x ∧ x < 256) : ((UInt8.ofNat x.toNat).toNat : Int) = x := by
  rw [UInt8.toNat_ofNat']; omega
theorem u8_lt {x y : Int} (hx : 0 ≤ x ∧ x < 256) (hy : 0 ≤ y ∧ y < 256) : (UInt8.ofNat x.toNat < UInt8.ofNat y.toNat) = (x < y) := by
  have h1 := u8_n hx
  have h2 := u8_n hy
  rw [UInt8.lt_iff_toNat_lt, eq_iff_iff]; omega
theorem u8_eq {x y : Int} (hx : 0 ≤ x ∧ x < 256) (hy : 0 ≤ y ∧ y < 256) : (UInt8.ofNat x.toNat = UInt8.ofNat y.toNat) = (x = y) := by
  have h1 := u8_n hx
  have h2 := u8_n hy
  rw [eq_iff_iff]
  exact ⟨fun h => by rw [h] at h1; omega, fun h => by rw [h]⟩
theorem cmpU_map : ∀ {l l2 : List Int}, isB1 l → isB1 l2 → cmpU (l.map fun n => UInt8.ofNat n.toNat) (l2.map fun n => UInt8.ofNat n.toNat) = cmpL l l2
  | [], [], _, _ => rfl
  | [], _ :: _, _, _ => rfl
  | _ :: _, [], _, _ => rfl
  | x :: a, y :: b, h1, h2 => by
    have hx := h1 x (by simp)
    have hy := h2 y (by simp)
    have ih := cmpU_map (l := a) (l2 := b) (fun c hc => h1 c (by simp [hc])) (fun c hc => h2 c (by simp [hc]))
    simp only [List.map_cons, cmpU, cmpL, u8_lt hx hy, u8_eq hx hy, ih]
theorem cmp_num {l l2 : List Int} (h1 : isB1 l) (h2 : isB1 l2) : Extern.BytealgCompare.cmp (strOfNums l) (strOfNums l2) = cmpL l l2 := by
  rw [cmp_bs, ← cmpU_map h1 h2]
  rfl
theorem cmpL_same (p : List Int) (a b : List Int) : cmpL (p ++ a) (p ++ b) = cmpL a b := by
  induction p with
  | nil => rfl
  | cons x p ih => simp [cmpL, ih]
def escL (l : List Int) : List Int := l.flatMap esc1 ++ [0, 0]
theorem escL_nil : escL [] = [0, 0] := rfl
theorem escL_cons (x : Int) (l : List Int) : escL (x :: l) = esc1 x ++ escL l := by simp [escL]
theorem cmp_esc : ∀ {u v : List Int}, isB1 u → isB1 v → cmpL (escL u) (escL v) = cmpL u v
  | [], [], _, _ => by decide
  | [], y :: b, _, h2 => by
    have hy := h2 y (by simp)
    rw [escL_nil, escL_cons]
    by_cases h : y = 0
    · subst h; simp [esc1, cmpL]
    · have : 0 < y := by omega
      simp [esc1, cmpL, h, this]
  | x :: a, [], h1, _ => by
    have hx := h1 x (by simp)
    rw [escL_nil, escL_cons]
    by_cases h : x = 0
    · subst h; simp [esc1, cmpL]
    · have h3 : ¬ x < 0 := by omega
      simp [esc1, cmpL, h, h3]
  | x :: a, y :: b, h1, h2 => by
    have hx := h1 x (by simp)
    have hy := h2 y (by simp)
    have ih := cmp_esc (u := a) (v := b) (fun c hc => h1 c (by simp [hc])) (fun c hc => h2 c (by simp [hc]))
    rw [escL_cons, escL_cons]
    by_cases h : x = y
    · subst h; rw [cmpL_same, ih]; simp [cmpL]
    · by_cases hx0 : x = 0
      · subst hx0
        have h3 : 0 < y := by omega
        have h4 : ¬ y = 0 := by omega
        simp [esc1, cmpL, h3, h4]
      · by_cases hy0 : y = 0
        · subst hy0
          have h3 : ¬ x < 0 := by omega
          simp [esc1, cmpL, h3, hx0]
        · simp [esc1, cmpL, hx0, hy0, h]
def beD (x : Int) : Nat → List Int
  | 0 => []
  | k + 1 => x / 256 ^ k % 256 :: beD x k
theorem dig_split (x : Int) (k : Nat) : x % 256 ^ (k + 1) = x / 256 ^ k % 256 * 256 ^ k + x % 256 ^ k ∧ 0 ≤ x % 256 ^ k ∧ x % 256 ^ k < 256 ^ k := by
  have hp : (0 : Int) < 256 ^ k := Int.pow_pos (by decide)
  refine ⟨?_, Int.emod_nonneg _ (by omega), Int.emod_lt_of_pos _ hp⟩
  have h1 := Int.emod_add_mul_ediv x (256 ^ k)
  have h2 := Int.emod_add_mul_ediv x (256 ^ (k + 1))
  have h3 := Int.emod_add_mul_ediv (x / 256 ^ k) 256
  have h4 : x / 256 ^ (k + 1) = x / 256 ^ k / 256 := by rw [Int.pow_succ, Int.ediv_ediv_of_nonneg (Int.le_of_lt hp)]
  rw [h4, Int.pow_succ] at h2
  rw [Int.pow_succ]
  generalize x / 256 ^ k = q at *
  generalize (256 : Int) ^ k = p at *
  have h5 : p * 256 * (q / 256) = p * (256 * (q / 256)) := Int.mul_assoc _ _ _
  have h6 : p * q = p * (q % 256) + p * (256 * (q / 256)) := by rw [← Int.mul_add, h3]
  have h7 : q % 256 * p = p * (q % 256) := Int.mul_comm _ _
  omega
theorem cmp_dig (m n : Int) : ∀ k, cmpL (beD m k) (beD n k) = cmpI (m % 256 ^ k) (n % 256 ^ k)
  | 0 => by simp [beD, cmpL, cmpI, Int.emod_one]
  | k + 1 => by
    have ih := cmp_dig m n k
    obtain ⟨a1, a2, a3⟩ := dig_split m k
    obtain ⟨b1, b2, b3⟩ := dig_split n k
    simp only [beD, cmpL]
    rw [ih, a1, b1]
    have hp : (0 : Int) < 256 ^ k := Int.pow_pos (by decide)
    have hx : 0 ≤ m / 256 ^ k % 256 := Int.emod_nonneg _ (by decide)
    have hy : 0 ≤ n / 256 ^ k % 256 := Int.emod_nonneg _ (by decide)
    generalize m / 256 ^ k % 256 = x at *
    generalize n / 256 ^ k % 256 = y at *
    generalize (256 : Int) ^ k = p at *
    generalize m % p = u at *
    generalize n % p = v at *
    rcases Int.lt_trichotomy x y with h | h | h
    · have h1 : x * p + p ≤ y * p := by
        have := Int.mul_le_mul_of_nonneg_right (show x + 1 ≤ y by omega) (Int.le_of_lt hp)
        rw [Int.add_mul, Int.one_mul] at this; exact this
      rw [if_pos h, cmpI, if_pos (by omega)]
    · subst h
      rw [if_neg (by omega), if_pos rfl]
      unfold cmpI
      by_cases h1 : u < v
      · rw [if_pos h1, if_pos (by omega)]
      · by_cases h2 : v < u
        · rw [if_neg h1, if_pos h2, if_neg (by omega), if_pos (by omega)]
        · rw [if_neg h1, if_neg h2, if_neg (by omega), if_neg (by omega)]
    · have h1 : y * p + p ≤ x * p := by
        have := Int.mul_le_mul_of_nonneg_right (show y + 1 ≤ x by omega) (Int.le_of_lt hp)
        rw [Int.add_mul, Int.one_mul] at this; exact this
      rw [if_neg (by omega), if_neg (by omega), cmpI, if_neg (by omega), if_pos (by omega)]
theorem be_dig (x : Int) : beN x 8 = beD x 8 := by
  have h : ∀ j : Nat, j < 8 → (2 : Int) ^ (8 * (7 - j)) = 256 ^ (7 - j) := fun j _ => by rw [Int.pow_mul]; rfl
  show [byt x 0, byt x 1, byt x 2, byt x 3, byt x 4, byt x 5, byt x 6, byt x 7] = _
  simp only [byt, h 0 (by decide), h 1 (by decide), h 2 (by decide), h 3 (by decide), h 4 (by decide), h 5 (by decide), h 6 (by decide), h 7 (by decide)]
  rfl
theorem cmp_be {m n : Int} (hm : 0 ≤ m ∧ m < 18446744073709551616) (hn : 0 ≤ n ∧ n < 18446744073709551616) : cmpL (beN m 8) (beN n 8) = cmpI m n := by
  rw [be_dig, be_dig, cmp_dig]
  have : (256 : Int) ^ 8 = 18446744073709551616 := by decide
  rw [this, Int.emod_eq_of_lt hm.1 hm.2, Int.emod_eq_of_lt hn.1 hn.2]
theorem cmpS_L : ∀ a b : List UInt8, cmpS a b = cmpL (a.map fun c => (c.toNat : Int)) (b.map fun c => (c.toNat : Int))
  | [], [] => by simp [cmpS, Op.bytesLess, cmpL]
  | [], y :: b => by simp [cmpS, Op.bytesLess, cmpL]
  | x :: a, [] => by simp [cmpS, Op.bytesLess, cmpL]
  | x :: a, y :: b => by
    have ih := cmpS_L a b
    simp only [List.map_cons, cmpL]
    rw [← ih]
    have e1 : ((x.toNat : Int) < (y.toNat : Int)) = (x < y) := by rw [UInt8.lt_iff_toNat_lt, eq_iff_iff]; omega
    have e2 : ((x.toNat : Int) = (y.toNat : Int)) = (x = y) := by rw [eq_iff_iff, UInt8.toNat_inj.symm]; omega
    simp only [e1, e2]
    unfold cmpS
    by_cases h1 : x < y
    · simp [Op.bytesLess, h1]
    · by_cases h2 : x = y
      · subst h2; simp [Op.bytesLess]
      · simp [Op.bytesLess, h1, h2]
theorem right_cases {v : Val} (h : rightB v = true) : (v.k = 1 ∧ v.n = 0 ∧ v.t = ⟨#[]⟩) ∨ (v.k = 2 ∧ (v.n = 0 ∨ v.n = 1) ∧ v.t = ⟨#[]⟩) ∨ (v.k = 3 ∧ v.t = ⟨#[]⟩) ∨ (v.k = 4 ∧ v.n = 0) := by
  simp only [rightB, Bool.or_eq_true, Bool.and_eq_true, decide_eq_true_eq, bsEq_t] at h
  rcases h with ((⟨⟨h1, h2⟩, h3⟩ | ⟨⟨h1, h2⟩, h3⟩) | ⟨h1, h2⟩) | ⟨⟨h1, h2⟩, h3⟩
  · exact .inl ⟨h1, h2, bs_ext h3⟩
  · exact .inr (.inl ⟨h1, h2, bs_ext h3⟩)
  · exact .inr (.inr (.inl ⟨h1, bs_ext h2⟩))
  · exact .inr (.inr (.inr ⟨h1, h2⟩))
theorem esc_is (u : ByteArray) : (bi u).flatMap esc1 ++ [0, 0] = escL (bi u) := rfl
theorem isB1_bi (u : ByteArray) : isB1 (bi u) := by
  intro c hc
  simp only [bi, List.mem_map] at hc
  obtain ⟨d, _, rfl⟩ := hc
  have := d.toNat_lt
  omega
theorem enc_1 {v : Val} (h : rightB v = true) (hk : v.k = 1) : encV v = [1] := by
  simp [encV, h, encB, hk]; decide
theorem enc_2 {v : Val} (h : rightB v = true) (hk : v.k = 2) (hn : v.n = 0 ∨ v.n = 1) : encV v = [2, v.n] := by
  rcases hn with hn | hn <;> simp [encV, h, encB, hk, hn] <;> decide
theorem enc_3 {v : Val} (h : rightB v = true) (hk : v.k = 3) : encV v = 3 :: beN (v.n + 9223372036854775808) 8 := by
  simp [encV, h, encB, hk]; decide
theorem enc_4 {v : Val} (h : rightB v = true) (hk : v.k = 4) : encV v = 4 :: escL (bi v.t) := by
  simp [encV, h, encB, hk, esc_is]; decide
theorem cmpI_self (x : Int) : cmpI x x = 0 := by simp [cmpI]
theorem cmpS_self (x : List UInt8) : cmpS x x = 0 := by
  have : Op.bytesLess x x = false := by
    induction x with
    | nil => rfl
    | cons c l ih => simp [Op.bytesLess, ih]
  simp [cmpS, this]
theorem cmpL_1 (x y : Int) : cmpL [x] [y] = cmpI x y := by
  unfold cmpL cmpI
  by_cases h1 : x < y
  · simp [h1]
  · by_cases h2 : x = y
    · subst h2; simp [cmpL]
    · have : y < x := by omega
      simp [h1, h2, this]
theorem orN_3 (x y z : Int) : orN [x, y, z] = if x = 0 then (if y = 0 then z else y) else x := by
  simp only [orN]
  by_cases h1 : x = 0 <;> by_cases h2 : y = 0 <;> by_cases h3 : z = 0 <;> simp [h1, h2, h3]
theorem right_enc {v : Val} (h : rightB v = true) : (v.k = 1 ∧ v.n = 0 ∧ v.t = ⟨#[]⟩ ∧ encV v = [1]) ∨ (v.k = 2 ∧ (v.n = 0 ∨ v.n = 1) ∧ v.t = ⟨#[]⟩ ∧ encV v = [2, v.n]) ∨ (v.k = 3 ∧ v.t = ⟨#[]⟩ ∧ encV v = 3 :: beN (v.n + 9223372036854775808) 8) ∨ (v.k = 4 ∧ v.n = 0 ∧ encV v = 4 :: escL (bi v.t)) := by
  rcases right_cases h with ⟨h1, h2, h3⟩ | ⟨h1, h2, h3⟩ | ⟨h1, h3⟩ | ⟨h1, h2⟩
  · exact .inl ⟨h1, h2, h3, enc_1 h h1⟩
  · exact .inr (.inl ⟨h1, h2, h3, enc_2 h h1 h2⟩)
  · exact .inr (.inr (.inl ⟨h1, h3, enc_3 h h1⟩))
  · exact .inr (.inr (.inr ⟨h1, h2, enc_4 h h1⟩))
theorem cmpL_cons (x : Int) (a b : List Int) : cmpL (x :: a) (x :: b) = cmpL a b := by simp [cmpL]
theorem cmpI_add (x y d : Int) : cmpI (x + d) (y + d) = cmpI x y := by
  unfold cmpI
  by_cases h1 : x < y
  · rw [if_pos h1, if_pos (by omega)]
  · by_cases h2 : y < x
    · rw [if_neg h1, if_pos h2, if_neg (by omega), if_pos (by omega)]
    · rw [if_neg h1, if_neg h2, if_neg (by omega), if_neg (by omega)]
theorem sorts_cmp {a b : Val} (ra : rightB a = true) (rb : rightB b = true) (ha : I64 a.n) (hb : I64 b.n) : cmpL (encV a) (encV b) = cmpV a b := by
  unfold cmpV
  rw [orN_3]
  rcases right_enc ra with ⟨h1, h2, h3, h4⟩ | ⟨h1, h2, h3, h4⟩ | ⟨h1, h3, h4⟩ | ⟨h1, h2, h4⟩ <;> rcases right_enc rb with ⟨g1, g2, g3, g4⟩ | ⟨g1, g2, g3, g4⟩ | ⟨g1, g3, g4⟩ | ⟨g1, g2, g4⟩ <;> rw [h4, g4, h1, g1]
  · rw [h2, g2, h3, g3, cmpI_self, cmpI_self, cmpS_self]; rfl
  · rfl
  · rfl
  · rfl
  · rfl
  · rw [cmpL_cons, cmpL_1, h3, g3, cmpI_self, cmpS_self, if_pos rfl]; split <;> simp_all
  · rfl
  · rfl
  · rfl
  · rfl
  · rw [cmpL_cons, cmp_be (by unfold I64 at ha; omega) (by unfold I64 at hb; omega), cmpI_add, h3, g3, cmpI_self, cmpS_self, if_pos rfl]; split <;> simp_all
  · rfl
  · rfl
  · rfl
  · rfl
  · rw [cmpL_cons, cmp_esc (isB1_bi _) (isB1_bi _), h2, g2, cmpI_self, cmpI_self, if_pos rfl, if_pos rfl, cmpS_L]; rfl
theorem cmpL_self : ∀ l : List Int, cmpL l l = 0
  | [] => rfl
  | x :: l => by simp [cmpL, cmpL_self l]
def prefB' (l l2 : List Int) : Bool := decide (l2.length ≤ l.length) && bsEq (strOfNums (l.take l2.length)) (strOfNums l2)
theorem esc_free : ∀ (v u r : List Int), escL v ++ r = escL u → v = u
  | [], [], _, _ => rfl
  | [], x :: u, r, h => by
    rw [escL_nil, escL_cons] at h
    by_cases hx : x = 0
    · subst hx; simp [esc1] at h
    · simp [esc1, hx] at h; exact absurd h.1.symm hx
  | y :: v, [], r, h => by
    rw [escL_nil, escL_cons] at h
    by_cases hy : y = 0
    · subst hy; simp [esc1] at h
    · simp [esc1, hy] at h
  | y :: v, x :: u, r, h => by
    rw [escL_cons, escL_cons] at h
    by_cases hy : y = 0 <;> by_cases hx : x = 0
    · subst hy; subst hx
      simp [esc1] at h
      rw [esc_free v u r h]
    · subst hy; simp [esc1, hx] at h; exact absurd h.1.symm hx
    · subst hx; simp [esc1, hy] at h
    · simp [esc1, hy, hx] at h
      rw [h.1, esc_free v u r h.2]
theorem num_inj : ∀ {l l2 : List Int}, isB1 l → isB1 l2 → strOfNums l = strOfNums l2 → l = l2 := by
  intro l l2 h1 h2 h
  have h3 : (l.map fun n => UInt8.ofNat n.toNat) = l2.map fun n => UInt8.ofNat n.toNat := congrArg bs h
  clear h
  induction l generalizing l2 with
  | nil => cases l2 <;> simp_all
  | cons x l ih =>
    cases l2 with
    | nil => simp at h3
    | cons y l2 =>
      simp only [List.map_cons, List.cons.injEq] at h3
      have h4 := h3.1
      rw [u8_eq (h1 x (by simp)) (h2 y (by simp))] at h4
      rw [h4, ih (fun c hc => h1 c (by simp [hc])) (fun c hc => h2 c (by simp [hc])) h3.2]
theorem isB1_esc (u : ByteArray) : isB1 (escL (bi u)) := by
  intro c hc
  simp only [escL, List.mem_append, List.mem_flatMap] at hc
  rcases hc with ⟨d, hd, hc⟩ | hc
  · have := isB1_bi u d hd
    unfold esc1 at hc
    split at hc <;> simp at hc <;> omega
  · simp at hc; omega
theorem isB1_be (x : Int) (j : Nat) : isB1 (beN x j) := by
  intro c hc
  simp only [beN, List.mem_map] at hc
  obtain ⟨i, _, rfl⟩ := hc
  unfold byt; omega
theorem isB1_enc {v : Val} (h : rightB v = true) : isB1 (encV v) := by
  rcases right_enc h with ⟨h1, h2, h3, h4⟩ | ⟨h1, h2, h3, h4⟩ | ⟨h1, h3, h4⟩ | ⟨h1, h2, h4⟩ <;> rw [h4] <;> intro c hc <;> simp only [List.mem_cons] at hc
  · simp at hc; omega
  · simp at hc; omega
  · rcases hc with rfl | hc
    · omega
    · exact isB1_be _ _ c hc
  · rcases hc with rfl | hc
    · omega
    · exact isB1_esc _ c hc
theorem bi_inj {u v : ByteArray} (h : bi u = bi v) : u = v := by
  apply bs_ext
  have : ∀ {a b : List UInt8}, (a.map fun c => (c.toNat : Int)) = b.map (fun c => (c.toNat : Int)) → a = b := by
    intro a
    induction a with
    | nil => intro b h; cases b <;> simp_all
    | cons x a ih =>
      intro b h
      cases b with
      | nil => simp at h
      | cons y b =>
        simp only [List.map_cons, List.cons.injEq] at h
        have h1 : x.toNat = y.toNat := by omega
        rw [UInt8.toNat_inj.1 h1, ih h.2]
  exact this h
theorem pfree {a b : Val} (ra : rightB a = true) (rb : rightB b = true) (ha : I64 a.n) (hb : I64 b.n) (hne : eqV a b = false) : prefB' (encV a) (encV b) = false := by
  by_cases h : prefB' (encV a) (encV b) = true
  · exfalso
    simp only [prefB', Bool.and_eq_true, decide_eq_true_eq, bsEq_t] at h
    have h5 := num_inj ((isB1_enc ra).take _) (isB1_enc rb) (bs_ext h.2)
    have h6 : encV b ++ (encV a).drop (encV b).length = encV a := by
      have := List.take_append_drop (encV b).length (encV a)
      rw [h5] at this
      exact this
    have key : a = b := by
      obtain ⟨k, n, t⟩ := a
      obtain ⟨k', n', t'⟩ := b
      generalize (encV _).drop _ = r at h6
      rcases right_enc ra with ⟨h1, h2, h3, h4⟩ | ⟨h1, h2, h3, h4⟩ | ⟨h1, h3, h4⟩ | ⟨h1, h2, h4⟩ <;> rcases right_enc rb with ⟨g1, g2, g3, g4⟩ | ⟨g1, g2, g3, g4⟩ | ⟨g1, g3, g4⟩ | ⟨g1, g2, g4⟩ <;> rw [h4, g4] at h6 <;> simp only [List.cons_append, List.cons.injEq] at h6 <;> simp only at * <;> first | (exfalso; omega) | skip
      · simp_all
      · simp_all
      · have e := (List.append_inj (show beN (n' + 9223372036854775808) 8 ++ r = beN (n + 9223372036854775808) 8 ++ [] by rw [List.append_nil]; exact h6.2) (by rw [beN_len, beN_len])).1
        have e2 := cmp_be (m := n' + 9223372036854775808) (n := n + 9223372036854775808) (by unfold I64 at hb; omega) (by unfold I64 at ha; omega)
        rw [e, cmpL_self] at e2
        have e3 : n' = n := by
          unfold cmpI at e2
          split at e2
          · omega
          · split at e2 <;> omega
        rw [h1, g1, h3, g3, e3]
      · rw [bi_inj (esc_free _ _ _ h6.2)]
        simp_all
    rw [key, eqV_self] at hne
    cases hne
  · simpa using h
end Go.Proofs.YtdcemcobldpcnaaDoor
