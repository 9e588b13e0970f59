/- The walks of bytes.Equal, bytes.Compare and cmp.Compare at three kinds, and the order of numbers' bytes. No condition. -/
import Derived.Test.YtnlgdcoeooppnaaW2
import Derived.Laws.BytesArg
import Derived.Laws.Externs
import Derived.Lib.Bytealg
namespace Go.Proofs.Ytnlgdcoeooppnaa
open Go.RowKit
set_option linter.unusedVariables false

theorem conv_bytes {w : World} {e1 : Option TypeId} {A : Option Addr} {n : Nat} {l : List Int} (h : Sees w e1 1 A n (ib .u8 l)) (c : Nat) :
    (convert 22 9 (.slice A n c)).run Try.prog w = .ok (.string (strOfNums l)) w := by
  have hl := h.len
  rcases A with _ | ad
  · have h0 := h.2.1 rfl
    subst h0
    have : l = [] := List.eq_nil_of_length_eq_zero hl
    subst this
    exact run_convert_bytes_nil w 22 5 Try.underlying22 Try.underlying5 0 c 9 Try.underlying9
  · have hc : (loadCells ad n).run Try.prog w = .ok (l.map (Value.int .u8)).toArray w := by
      have := run_loadCells_list (P := Try.prog) w ad (l.map (Value.int .u8)) (h.2.2 ad rfl).2
      simpa [hl] using this
    rw [run_convert_bytes_string w 22 9 5 _ n c Try.underlying22 Try.underlying5 Try.underlying9, run_bytesToString w _ n c l hc, foldl_push_bytes]
    simp [strOfNums, ByteArray.empty, ByteArray.emptyWithCapacity]
    rfl

theorem u8_inj {l r : List Int} (hl : isB l) (hr : isB r) (h : (l.map fun n => UInt8.ofNat n.toNat) = r.map fun n => UInt8.ofNat n.toNat) : l = r := by
  induction l generalizing r with
  | nil => cases r <;> simp_all
  | cons a l ih =>
    cases r with
    | nil => simp at h
    | cons b r =>
      simp only [List.map_cons, List.cons.injEq] at h
      have ha := hl a (by simp)
      have hb := hr b (by simp)
      have h1 := congrArg UInt8.toNat h.1
      simp at h1
      have : a = b := by omega
      subst this
      rw [ih (fun x hx => hl x (by simp [hx])) (fun x hx => hr x (by simp [hx])) h.2]

theorem str_list (l : List Int) : (strOfNums l).toList = l.map fun n => UInt8.ofNat n.toNat := by
  rw [← strOfNums_data, ByteArray.toList_eq]

theorem str_eq {l r : List Int} (hl : isB l) (hr : isB r) : ((strOfNums l).toList == (strOfNums r).toList) = eqB l r := by
  rw [str_list, str_list]
  by_cases h : l = r
  · subst h; simp [eqB]
  · rw [eqB_false h]
    simp only [beq_eq_false_iff_ne, ne_eq]
    exact fun e => h (u8_inj hl hr e)

theorem bytesEqual_any {e1 e2 : Option TypeId} (A B : Option Addr) (n c m d : Nat) (l r : List Int) (w : World) (hs : Sees w e1 1 A n (ib .u8 l)) (hr : Sees w e2 1 B m (ib .u8 r)) (hl : isB l) (hrB : isB r) :
    Calls Try.prog 30 #[.slice A n c, .slice B m d] w fun e w' => e = .returned (.bool (eqB l r)) ∧ w = w' := by
  have h1 := conv_bytes hs c
  have h2 := conv_bytes hr d
  have H3 := Lib.hid (str_eq hl hrB)
  go_enter Try.func30, Try.ntmps30
  go_wp2
  go_ret
  exact ⟨by rw [← H3.out]; rfl, rfl⟩

/-- What is greater, byte by byte. -/
def cmpI : List Int → List Int → Int
  | [], [] => 0
  | [], _ :: _ => -1
  | _ :: _, [] => 1
  | a :: l, b :: r => if a < b then -1 else if b < a then 1 else cmpI l r

theorem cmpI_eq : ∀ (l r : List Int), isB l → isB r → Lib.compareBytes (l.map fun n => UInt8.ofNat n.toNat) (r.map fun n => UInt8.ofNat n.toNat) = cmpI l r
  | [], [], _, _ => by simp [Lib.compareBytes, cmpI]
  | [], _ :: _, _, _ => by simp [Lib.compareBytes, cmpI]
  | _ :: _, [], _, _ => by simp [Lib.compareBytes, cmpI]
  | a :: l, b :: r, hl, hr => by
    have ha := hl a (by simp)
    have hb := hr b (by simp)
    have ih := cmpI_eq l r (fun x hx => hl x (by simp [hx])) (fun x hx => hr x (by simp [hx]))
    simp only [List.map_cons, Lib.compareBytes, cmpI, ih]
    have h1 : (UInt8.ofNat a.toNat < UInt8.ofNat b.toNat) ↔ a < b := by
      rw [UInt8.lt_iff_toNat_lt]; simp; omega
    have h2 : (UInt8.ofNat b.toNat < UInt8.ofNat a.toNat) ↔ b < a := by
      rw [UInt8.lt_iff_toNat_lt]; simp; omega
    simp only [h1, h2]

theorem run_loadBytes {P : Program} {w : World} : ∀ (l : List Int) (a : Addr) (acc : ByteArray), (∀ j u, (ib .u8 l)[j]? = some u → w.cell? (a.add j) = some u) →
    (Extern.Bytes.loadBytes a l.length acc).run P w = .ok ⟨acc.data ++ (l.map fun n => UInt8.ofNat n.toNat).toArray⟩ w
  | [], a, acc, _ => by simp [Extern.Bytes.loadBytes]
  | x :: l, a, acc, h => by
    have h0 := h 0 (.int .u8 x) (by simp [ib])
    have e0 : a.add 0 = a := rfl
    rw [e0] at h0
    have ih := run_loadBytes (P := P) (w := w) l (a.add 1) (acc.push x.toNat.toUInt8) (fun j u hu => by
      rw [addr_add, Nat.add_comm]
      exact h (j + 1) u (by simpa [ib] using hu))
    have e1 : (⟨acc.data.push (UInt8.ofNat x.toNat)⟩ : ByteArray) = acc.push x.toNat.toUInt8 := rfl
    simp only [List.length_cons, Extern.Bytes.loadBytes, Sem.run_bind, run_load, h0, Result.andThen]
    rw [ih]
    simp [ByteArray.push]

theorem run_bytesOf {P : Program} {w : World} {e1 : Option TypeId} {A : Option Addr} {n : Nat} {l : List Int} (h : Sees w e1 1 A n (ib .u8 l)) (c : Nat) :
    (Extern.Bytes.bytesOf (.slice A n c)).run P w = .ok (strOfNums l) w := by
  have hl := h.len
  rcases A with _ | ad
  · have h0 := h.2.1 rfl
    subst h0
    have : l = [] := List.eq_nil_of_length_eq_zero hl
    subst this
    simp [Extern.Bytes.bytesOf, strOfNums, ByteArray.empty, ByteArray.emptyWithCapacity]
    rfl
  · subst hl
    simp only [Extern.Bytes.bytesOf]
    rw [run_loadBytes l ad .empty (h.2.2 ad rfl).2]
    simp [strOfNums, ByteArray.empty, ByteArray.emptyWithCapacity]
    rfl

theorem run_compare {P : Program} {w : World} {e1 e2 : Option TypeId} {A B : Option Addr} {n m : Nat} {l r : List Int} (h1 : Sees w e1 1 A n (ib .u8 l)) (h2 : Sees w e2 1 B m (ib .u8 r)) (c d : Nat) (hl : isB l) (hr : isB r) :
    (Extern.BytealgCompare.compare #[.slice A n c, .slice B m d]).run P w = .ok (.int .i64 (cmpI l r)) w := by
  change Sem.run P (do pure (goInt (Extern.BytealgCompare.cmp (← Extern.Bytes.bytesOf (.slice A n c)) (← Extern.Bytes.bytesOf (.slice B m d))))) w = _
  simp only [Sem.run_bind, Sem.run_pure, Result.andThen, run_bytesOf h1, run_bytesOf h2]
  rw [Lib.cmp_eq, strOfNums_data, strOfNums_data, cmpI_eq l r hl hr]
  rfl

theorem bytesCompare_any {e1 e2 : Option TypeId} (A B : Option Addr) (n c m d : Nat) (l r : List Int) (w : World) (hs : Sees w e1 1 A n (ib .u8 l)) (hr : Sees w e2 1 B m (ib .u8 r)) (hl : isB l) (hrB : isB r) :
    Calls Try.prog 35 #[.slice A n c, .slice B m d] w fun e w' => e = .returned (.int .i64 (cmpI l r)) ∧ w = w' := by
  have h1 := run_compare (P := Try.prog) hs hr c d hl hrB
  go_enter Try.func35, Try.ntmps35
  go_wp2
  rw [run_callFunc_extern Try.func50 (by kernel_rfl) (by kernel_rfl) (by kernel_rfl) (e := Extern.BytealgCompare.compare) (by kernel_rfl), h1]
  simp only [Result.andThen]
  rw [Oper.upon_value]
  go_wp2
  go_ret
  exact ⟨rfl, rfl⟩

/-- Which number is greater. -/
def cmpN (x y : Int) : Int := if x < y then -1 else if y < x then 1 else 0

theorem cmp64_any (x y : Int) (w : World) : Calls Try.prog 36 #[.int .u64 x, .int .u64 y] w fun e w' => e = .returned (.int .i64 (cmpN x y)) ∧ w = w' := by
  by_cases h1 : x < y
  · have H := Lib.hid (show cmpN x y = -1 by simp [cmpN, h1])
    go_enter Try.func36, Try.ntmps36
    go_wp2
    go_ret
    exact ⟨by rw [H.out]; rfl, rfl⟩
  · by_cases h2 : y < x
    · have H := Lib.hid (show cmpN x y = 1 by simp [cmpN, h1, h2])
      go_enter Try.func36, Try.ntmps36
      go_wp2
      go_ret
      exact ⟨by rw [H.out]; rfl, rfl⟩
    · have H := Lib.hid (show cmpN x y = 0 by simp [cmpN, h1, h2])
      go_enter Try.func36, Try.ntmps36
      go_wp2
      go_ret
      exact ⟨by rw [H.out]; rfl, rfl⟩

theorem cmp32_any (x y : Int) (w : World) : Calls Try.prog 37 #[.int .u32 x, .int .u32 y] w fun e w' => e = .returned (.int .i64 (cmpN x y)) ∧ w = w' := by
  by_cases h1 : x < y
  · have H := Lib.hid (show cmpN x y = -1 by simp [cmpN, h1])
    go_enter Try.func37, Try.ntmps37
    go_wp2
    go_ret
    exact ⟨by rw [H.out]; rfl, rfl⟩
  · by_cases h2 : y < x
    · have H := Lib.hid (show cmpN x y = 1 by simp [cmpN, h1, h2])
      go_enter Try.func37, Try.ntmps37
      go_wp2
      go_ret
      exact ⟨by rw [H.out]; rfl, rfl⟩
    · have H := Lib.hid (show cmpN x y = 0 by simp [cmpN, h1, h2])
      go_enter Try.func37, Try.ntmps37
      go_wp2
      go_ret
      exact ⟨by rw [H.out]; rfl, rfl⟩

theorem cmp16_any (x y : Int) (w : World) : Calls Try.prog 38 #[.int .u16 x, .int .u16 y] w fun e w' => e = .returned (.int .i64 (cmpN x y)) ∧ w = w' := by
  by_cases h1 : x < y
  · have H := Lib.hid (show cmpN x y = -1 by simp [cmpN, h1])
    go_enter Try.func38, Try.ntmps38
    go_wp2
    go_ret
    exact ⟨by rw [H.out]; rfl, rfl⟩
  · by_cases h2 : y < x
    · have H := Lib.hid (show cmpN x y = 1 by simp [cmpN, h1, h2])
      go_enter Try.func38, Try.ntmps38
      go_wp2
      go_ret
      exact ⟨by rw [H.out]; rfl, rfl⟩
    · have H := Lib.hid (show cmpN x y = 0 by simp [cmpN, h1, h2])
      go_enter Try.func38, Try.ntmps38
      go_wp2
      go_ret
      exact ⟨by rw [H.out]; rfl, rfl⟩

theorem numS_foldl (l : List Int) : ∀ s : Int, l.foldl (fun x c => 256 * x + c) s = s * 256 ^ l.length + numS l := by
  induction l with
  | nil => intro s; simp [numS]
  | cons a l ih =>
    intro s
    simp only [List.foldl_cons, numS]
    rw [ih, ih (256 * 0 + a), List.length_cons, Int.pow_succ]
    rw [Int.add_mul, Int.mul_zero, Int.zero_add, Int.mul_comm 256 s, Int.mul_assoc, Int.mul_comm 256 (256 ^ l.length), Int.add_assoc]
theorem numS_cons (a : Int) (l : List Int) : numS (a :: l) = a * 256 ^ l.length + numS l := by
  show l.foldl (fun x c => 256 * x + c) (256 * 0 + a) = _
  rw [numS_foldl]
  simp

theorem cmpI_num : ∀ (l r : List Int), l.length = r.length → isB l → isB r → cmpI l r = cmpN (numS l) (numS r)
  | [], [], _, _, _ => by simp [cmpI, cmpN]
  | [], _ :: _, h, _, _ => by simp at h
  | _ :: _, [], h, _, _ => by simp at h
  | a :: l, b :: r, h, hl, hr => by
    have hlen : l.length = r.length := by simpa using h
    have ih := cmpI_num l r hlen (fun x hx => hl x (by simp [hx])) (fun x hx => hr x (by simp [hx]))
    have b1 := numS_bd_aux _ l rfl (fun x hx => hl x (by simp [hx]))
    have b2 := numS_bd_aux _ r rfl (fun x hx => hr x (by simp [hx]))
    rw [numS_cons, numS_cons, cmpI, ih, hlen]
    rw [hlen] at b1
    generalize (256 : Int) ^ r.length = p at *
    have hp : 0 < p := by omega
    unfold cmpN
    by_cases h1 : a < b
    · have : (a + 1) * p ≤ b * p := Int.mul_le_mul_of_nonneg_right (by omega) (by omega)
      rw [Int.add_mul] at this
      rw [if_pos h1, if_pos (by omega)]
    · by_cases h2 : b < a
      · have : (b + 1) * p ≤ a * p := Int.mul_le_mul_of_nonneg_right (by omega) (by omega)
        rw [Int.add_mul] at this
        rw [if_neg h1, if_pos h2, if_neg (by omega), if_pos (by omega)]
      · obtain rfl : a = b := by omega
        rw [if_neg h1, if_neg h2]
        by_cases h3 : numS l < numS r
        · rw [if_pos h3, if_pos (by omega)]
        · by_cases h4 : numS r < numS l
          · rw [if_neg h3, if_pos h4, if_neg (by omega), if_pos (by omega)]
          · rw [if_neg h3, if_neg h4, if_neg (by omega), if_neg (by omega)]

theorem hiT_isB (x : Int) (D n : Nat) : isB (hiT x D n) := fun y hy => by
  simp only [hiT, List.mem_map] at hy
  obtain ⟨i, _, rfl⟩ := hy
  omega
theorem numS_hi16 (x : Int) (h0 : 0 ≤ x) (h1 : x < 65536) : numS (hiT x 8 2) = x := by
  simp [numS, hiT, List.range, List.range.loop]; omega
theorem numS_hi32 (x : Int) (h0 : 0 ≤ x) (h1 : x < 4294967296) : numS (hiT x 24 4) = x := by
  simp [numS, hiT, List.range, List.range.loop]; omega
theorem numS_hi64 (x : Int) (h0 : 0 ≤ x) (h1 : x < 18446744073709551616) : numS (hiT x 56 8) = x := by
  simp [numS, hiT, List.range, List.range.loop]; omega
end Go.Proofs.Ytnlgdcoeooppnaa
