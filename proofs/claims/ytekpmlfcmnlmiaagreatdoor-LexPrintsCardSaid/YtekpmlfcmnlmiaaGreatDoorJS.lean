/- What blanks and a remark ahead do to a text's tokens. No condition. -/
import Derived.Test.YtekpmlfcmnlmiaaGreatDoorX8
import Derived.Lib.Repeat
namespace Go.Proofs.YtekpmlfcmnlmiaaGreatDoor
open Go.RowKit
set_option linter.unusedVariables false
set_option linter.unusedSimpArgs false

/-- Nothing, or a blank. -/
def sepL (r : List UInt8) : Prop := r = [] ∨ ∃ q, r = 32 :: q
theorem bs_wrdS (s : ByteArray) : bs (wrdS s) = (bs s).take (endN isW (bs s)) := by
  unfold wrdS
  rw [bs_extr]
  simp
/-- What is known of a token that may be. -/
theorem rig_fir {y : Yl} (h : rigB y = true) : firT (wriT y) = ((y.k, y.t, y.n), (((wriT y).size : Int), 0)) ∧ ∃ c l, bs (wriT y) = c :: l ∧ isP (c.toNat : Int) = true ∧ ¬ (c.toNat : Int) = 32 := by
  unfold rigB at h
  simp only [Bool.and_eq_true] at h
  obtain ⟨⟨⟨⟨⟨⟨⟨h1, h2⟩, h3⟩, h4⟩, h5⟩, h6⟩, h7⟩, h8⟩ := h
  refine ⟨?_, ?_⟩
  · have e := of_decide_eq_true h4
    have e5 := of_decide_eq_true h5
    have e6 := of_decide_eq_true h6
    have e7 := bs_ext ((bsEq_t _ _).mp h7)
    have e8 := of_decide_eq_true h8
    rw [← e6, ← e7, ← e8, ← e5, ← e]
  · cases hb : bs (wriT y) with
    | nil => rw [hb] at h3; cases h3
    | cons c l =>
      rw [hb] at h3
      simp only [List.getElem?_cons_zero, Bool.and_eq_true] at h3
      exact ⟨c, l, rfl, h3.1, by simpa using h3.2⟩
/-- Tokens' texts, a blank between them. -/
def jn (l : List Yl) : List UInt8 := Lib.join (l.map fun y => bs (wriT y)) [32]
theorem jn_1 (y : Yl) : jn [y] = bs (wriT y) := Lib.join_one _ _
theorem jn_2 (y z : Yl) (l : List Yl) : jn (y :: z :: l) = bs (wriT y) ++ 32 :: jn (z :: l) := by
  simp [jn, Lib.join, List.intercalate, List.intersperse]
theorem bs_txt (l : List Yl) : bs (txtS l) = jn l := by
  unfold txtS joinS jn bs
  simp [List.map_map, Function.comp_def, blS]
end Go.Proofs.YtekpmlfcmnlmiaaGreatDoor

namespace Go.Proofs.YtekpmlfcmnlmiaaGreatDoor
open Go.RowKit
set_option linter.unusedVariables false
set_option linter.unusedSimpArgs false

theorem rig_mk {y : Yl} {c : UInt8} {l : List UInt8} (hb : bs (wriT y) = c :: l) (h1 : isP (c.toNat : Int) = true) (h2 : ¬ (c.toNat : Int) = 32) (h3 : y.k = 3 → bs y.t = []) (hf : firT (wriT y) = ((y.k, y.t, y.n), (((wriT y).size : Int), 0))) : rigB y = true := by
  have e1 : bsEq (wriT y) ⟨#[]⟩ = false := by rw [bsEq_f, hb]; simp [bs]
  have e2 : (decide (y.k = 3) && !bsEq y.t ⟨#[]⟩) = false := by
    by_cases hk : y.k = 3
    · have : bsEq y.t ⟨#[]⟩ = true := by rw [bsEq_t, h3 hk]; rfl
      rw [this]; simp
    · simp [hk]
  have e3 : (bs (wriT y))[0]? = some c := by rw [hb]; rfl
  have e4 : bsEq y.t y.t = true := by rw [bsEq_t]
  unfold rigB
  rw [e1, e2, e3, hf]
  simp [h1, h2, e4]
theorem rig_any (k : Int) (t : ByteArray) (n a z e : Int) : rigB ⟨k, t, n, a, z, e⟩ = rigB ⟨k, t, n, 0, 0, 0⟩ := by
  unfold rigB wriT
  rfl
theorem keys_rig : ∀ k ∈ keysL, rigB ⟨1, k, 0, 0, 0, 0⟩ = true := by
  have : (keysL.all fun k => rigB ⟨1, k, 0, 0, 0, 0⟩) = true := by kernel_rfl
  exact List.all_eq_true.1 this
theorem keyN_mem {w : ByteArray} (h : (keyN w).2 = true) : (keyN w).1 ∈ keysL := by
  unfold keyN at h ⊢
  split at h
  · rename_i hk
    rw [if_pos hk]
    unfold inK at hk
    obtain ⟨z, hz, he⟩ := List.any_eq_true.1 hk
    have := bs_ext ((bsEq_t _ _).mp he)
    show upS w ∈ keysL
    rw [this]; exact hz
  · cases h
theorem letP {c : UInt8} (h : isL (c.toNat : Int) = true) : isP (c.toNat : Int) = true ∧ ¬ (c.toNat : Int) = 32 := by
  simp only [isL, isP, Bool.or_eq_true, Bool.and_eq_true, decide_eq_true_eq] at h ⊢
  omega
theorem digP {c : UInt8} (h : isD (c.toNat : Int) = true) : isP (c.toNat : Int) = true ∧ ¬ (c.toNat : Int) = 32 ∧ isL (c.toNat : Int) = false := by
  simp only [isL, isD, isP, Bool.or_eq_true, Bool.and_eq_true, decide_eq_true_eq, Bool.or_eq_false_iff, Bool.and_eq_false_iff, decide_eq_false_iff_not] at h ⊢
  omega
theorem dec_dig : ∀ (u : Nat), ∀ c ∈ Lib.decDigits u, isD (c.toNat : Int) = true := by
  intro u
  induction u using Nat.strongRecOn with
  | _ u ih =>
    intro c hc
    rw [Lib.decDigits] at hc
    split at hc
    · simp only [List.mem_singleton] at hc
      subst hc
      simp only [isD, UInt8.toNat_ofNat', Bool.and_eq_true, decide_eq_true_eq]
      omega
    · rcases List.mem_append.1 hc with h | h
      · exact ih (u / 10) (by omega) c h
      · simp only [List.mem_singleton] at h
        subst h
        simp only [isD, UInt8.toNat_ofNat', Bool.and_eq_true, decide_eq_true_eq]
        omega
theorem dec_ne (u : Nat) : Lib.decDigits u ≠ [] := by
  rw [Lib.decDigits]
  split <;> simp
theorem parse_app : ∀ {l r : List UInt8} {M acc u : Nat}, Lib.parseUintM M acc l = .ok u → Lib.parseUintM M acc (l ++ r) = Lib.parseUintM M u r
  | [], r, M, acc, u, h => by simp only [Lib.parseUintM] at h; injection h with h; subst h; rfl
  | c :: l, r, M, acc, u, h => by
    rw [Lib.parseUintM] at h
    rw [List.cons_append, Lib.parseUintM]
    split at h
    · rename_i h1
      rw [if_pos h1]
      split at h
      · cases h
      · rename_i h2
        rw [if_neg h2]
        split at h
        · cases h
        · rename_i h3
          rw [if_neg h3]
          exact parse_app h
    · cases h
theorem parse_dec : ∀ (u : Nat), u ≤ 18446744073709551615 → Lib.parseUintM 18446744073709551615 0 (Lib.decDigits u) = .ok u := by
  intro u
  induction u using Nat.strongRecOn with
  | _ u ih =>
    intro hu
    rw [Lib.decDigits]
    split
    · have e : (UInt8.ofNat (48 + u)).toNat = 48 + u := by simp only [UInt8.toNat_ofNat']; omega
      rw [Lib.parseUintM, e, if_pos (by omega), if_neg (by omega), if_neg (by omega), Lib.parseUintM]
      congr 1; omega
    · rw [parse_app (ih (u / 10) (by omega) (by omega))]
      have e : (UInt8.ofNat (48 + u % 10)).toNat = 48 + u % 10 := by simp only [UInt8.toNat_ofNat']; omega
      rw [Lib.parseUintM, e, if_pos (by omega), if_neg (by omega), if_neg (by omega), Lib.parseUintM]
      congr 1; omega
theorem endN_whole {q : Int → Bool} : ∀ {l : List UInt8}, (∀ c ∈ l, q (c.toNat : Int) = true) → endN q l = l.length
  | [], _ => rfl
  | c :: l, h => by rw [endN_cons, if_pos (h c (by simp)), endN_whole fun x hx => h x (by simp [hx])]; simp
theorem bs_ito (u : Nat) : bs (itoS (u : Int)) = Lib.decDigits u := by
  show (Lib.itoa (u : Int)) = _
  unfold Lib.itoa
  rw [if_neg (by omega)]
  simp
theorem num_dec {u : Nat} (hu : u ≤ 9223372036854775807) : numT (itoS (u : Int)) = ((3, (u : Int)), (((itoS (u : Int)).size : Int), 0)) := by
  have hb := bs_ito u
  have he : endN isD (bs (itoS (u : Int))) = (itoS (u : Int)).size := by rw [hb, endN_whole (dec_dig u), ← hb, bs_len]
  have hd : bs (digS (itoS (u : Int))) = Lib.decDigits u := by
    rw [bs_digS, he, ← bs_len, List.take_length, hb]
  have hp : Lib.parseUintB 64 (bs (digS (itoS (u : Int)))) = .ok u := by
    rw [hd]
    unfold Lib.parseUintB
    rw [if_neg (dec_ne u)]
    exact parse_dec u (by omega)
  rw [num_ok hp hu (lv_end (by omega)), he]
/-- A quoted text is read back. -/
theorem ub (v : Int) (h : isP v = true) : ((UInt8.ofNat v.toNat).toNat : Int) = v := by
  simp only [isP, Bool.and_eq_true, decide_eq_true_eq] at h
  simp only [UInt8.toNat_ofNat']
  omega
theorem bs_nums (l : List Int) : bs (strOfNums l) = l.map fun n : Int => UInt8.ofNat n.toNat := by simp [bs, strOfNums]
theorem quoU_P : ∀ (l : List UInt8) (acc : List Int) (k : Nat) (r : List Int) (m : Nat), quoU l acc k = some (r, m) → (∀ v ∈ acc, isP v = true) → ∀ v ∈ r, isP v = true
  | [], acc, k, r, m, h, _ => by simp [quoU] at h
  | [c], acc, k, r, m, h, ha => by
    simp only [quoU] at h
    split at h
    · simp at h; obtain ⟨rfl, rfl⟩ := h; exact ha
    · cases h
  | c :: d :: l, acc, k, r, m, h, ha => by
    rw [quoU] at h
    split at h
    · rename_i h1
      split at h
      · split at h
        · exact quoU_P l _ _ _ _ h fun v hv => by
            rcases List.mem_append.1 hv with hv | hv
            · exact ha v hv
            · simp at hv; subst hv; decide
        · simp at h; obtain ⟨rfl, rfl⟩ := h; exact ha
      · exact quoU_P (d :: l) _ _ _ _ h fun v hv => by
          rcases List.mem_append.1 hv with hv | hv
          · exact ha v hv
          · simp at hv; subst hv; exact h1
    · cases h
theorem quoU_back : ∀ (l : List Int) (acc : List Int) (k : Nat), (∀ v ∈ l, isP v = true) → quoU ((l.flatMap quoI ++ [39]).map fun n : Int => UInt8.ofNat n.toNat) acc k = some (acc ++ l, k + (l.flatMap quoI).length + 1)
  | [], acc, k, _ => by
    show quoU [39] acc k = _
    rw [quoU, if_pos ⟨by decide, rfl⟩]; simp
  | v :: l, acc, k, h => by
    have hv := h v (by simp)
    have ih := quoU_back l (acc ++ [v]) (k + (quoI v).length) fun x hx => h x (by simp [hx])
    by_cases hq : v = 39
    · subst hq
      show quoU (39 :: 39 :: (l.flatMap quoI ++ [39]).map _) acc k = _
      rw [quoU, if_pos (by decide), if_pos rfl, if_pos rfl, show k + 2 = k + (quoI 39).length from rfl, ih]
      simp [List.flatMap_cons, quoI]; omega
    · have e : quoI v = [v] := by unfold quoI; rw [if_neg hq]
      rw [e] at ih
      have hne : ∃ d t, ((l.flatMap quoI ++ [39]).map fun n : Int => UInt8.ofNat n.toNat) = d :: t := by
        cases hh : ((l.flatMap quoI ++ [39]).map fun n : Int => UInt8.ofNat n.toNat) with
        | nil => simp at hh
        | cons d t => exact ⟨d, t, rfl⟩
      obtain ⟨d, t, hd⟩ := hne
      rw [List.flatMap_cons, e, List.singleton_append, List.cons_append, List.map_cons, hd, quoU, if_pos (by rw [ub v hv]; exact hv), if_neg, ← hd, ub v hv, show k + 1 = k + [v].length from rfl, ih]
      · simp; omega
      · intro h39
        apply hq
        rw [← ub v hv, h39]; rfl
theorem num_str {l : List Int} (h : ∀ v ∈ l, isP v = true) : numS (strOfNums l) = l := by
  unfold numS
  rw [bs_nums, List.map_map]
  refine (List.map_congr_left fun v hv => ?_).trans (List.map_id l)
  exact ub v (h v hv)
theorem quo_back {l : List Int} (h : ∀ v ∈ l, isP v = true) (hl : l.length ≤ 64) : quoT (quoS (strOfNums l)) = ((4, strOfNums l), (((quoS (strOfNums l)).size : Int), 0)) ∧ ∃ r, bs (quoS (strOfNums l)) = 39 :: r := by
  have e : bs (quoS (strOfNums l)) = 39 :: ((l.flatMap quoI ++ [39]).map fun n : Int => UInt8.ofNat n.toNat) := by
    unfold quoS
    rw [num_str h, bs_nums]
    unfold quoN
    rfl
  have hs := bs_len (quoS (strOfNums l))
  rw [e] at hs
  simp only [List.length_cons, List.length_map, List.length_append, List.length_nil] at hs
  have hq := quoU_back l [] 1 h
  refine ⟨?_, _, e⟩
  rw [quoT_b (l := l) (k := 1 + (l.flatMap quoI).length + 1) (by rw [e]; simpa using hq) hl]
  simp only [Prod.mk.injEq, and_true, true_and]
  omega
/-- Tokens stand one behind the other. -/
def plcs (s : ByteArray) : Nat → List Yl → Prop
  | e, [] => e ≤ s.size ∧ lexT (s.extract e s.size) = ([], (0, 0))
  | e, y :: l => ∃ a z : Nat, y.a = (a : Int) ∧ y.z = (z : Int) ∧ e ≤ a ∧ a < z ∧ z ≤ s.size ∧ lexT (s.extract e a) = ([], (0, 0)) ∧ (∃ x, lexT (s.extract a z) = ([x], (0, 0)) ∧ smeB x y = true) ∧ plcs s z l
end Go.Proofs.YtekpmlfcmnlmiaaGreatDoor

namespace Go.Proofs.YtekpmlfcmnlmiaaGreatDoor
open Go.RowKit
set_option linter.unusedVariables false
set_option linter.unusedSimpArgs false

def sgnB (s : ByteArray) : Bool := inK sgns s
def allP (s : ByteArray) : Bool := (bs s).all fun c => isP (c.toNat : Int)
/-- May it be a token, by definition? -/
def oneB (y : Yl) : Bool :=
  if y.k = 1 then (keyN y.t).2 && bsEq (keyN y.t).1 y.t && decide (y.n = 0)
  else if y.k = 2 then nameB y.t && decide (y.n = 0)
  else if y.k = 3 then bsEq y.t ⟨#[]⟩ && decide (0 ≤ y.n)
  else if y.k = 4 then allP y.t && decide (y.t.size ≤ 64) && decide (y.n = 0)
  else if y.k = 5 then sgnB y.t && decide (y.n = 0) else false
theorem one_any (k : Int) (t : ByteArray) (n a z e : Int) : oneB ⟨k, t, n, a, z, e⟩ = oneB ⟨k, t, n, 0, 0, 0⟩ := rfl
theorem keys_one : ∀ k ∈ keysL, oneB ⟨1, k, 0, 0, 0, 0⟩ = true := by
  have : (keysL.all fun k => oneB ⟨1, k, 0, 0, 0, 0⟩) = true := by kernel_rfl
  exact List.all_eq_true.1 this
theorem sgns_one : ∀ k ∈ sgns, oneB ⟨5, k, 0, 0, 0, 0⟩ = true := by
  have : (sgns.all fun k => oneB ⟨5, k, 0, 0, 0, 0⟩) = true := by kernel_rfl
  exact List.all_eq_true.1 this
theorem sgns_rig : ∀ k ∈ sgns, rigB ⟨5, k, 0, 0, 0, 0⟩ = true := by
  have : (sgns.all fun k => rigB ⟨5, k, 0, 0, 0, 0⟩) = true := by kernel_rfl
  exact List.all_eq_true.1 this
theorem inK_mem {zs : List ByteArray} {x : ByteArray} (h : inK zs x = true) : x ∈ zs := by
  unfold inK at h
  obtain ⟨z, hz, he⟩ := List.any_eq_true.1 h
  rw [bs_ext ((bsEq_t _ _).mp he)]; exact hz
theorem fir_one {s : ByteArray} (he : (firT s).2.2 = 0) (a z e : Int) : oneB ⟨(firT s).1.1, (firT s).1.2.1, (firT s).1.2.2, a, z, e⟩ = true := by
  rw [one_any]
  cases hb : bs s with
  | nil => unfold firT at he; rw [hb] at he; cases he
  | cons c l =>
    have hy : (bs s)[0]? = some c := by rw [hb]; rfl
    by_cases hL : isL (c.toNat : Int) = true
    · by_cases hk : (keyN (wrdS s)).2 = true
      · rw [fir_key hy hL hk]
        exact keys_one _ (keyN_mem hk)
      · by_cases hm : nameB (wrdS s) = true
        · rw [fir_name hy hL (by simpa using hk) hm]
          simp [oneB, hm]
        · rw [fir_no hy hL (by simpa using hk) (by simpa using hm)] at he; cases he
    · have hL' : isL (c.toNat : Int) = false := by simpa using hL
      by_cases hD : isD (c.toNat : Int) = true
      · rw [fir_num hy hL' hD] at he ⊢
        unfold numT at he ⊢
        split at he
        · rename_i u hu
          split at he
          · rename_i hc
            rw [if_pos hc]
            simp [oneB, bsEq]
          · cases he
        · cases he
      · have hD' : isD (c.toNat : Int) = false := by simpa using hD
        by_cases hq : (c.toNat : Int) = 39
        · rw [fir_quo hy hL' hD' hq] at he ⊢
          unfold quoT at he ⊢
          split at he
          · rename_i l k hh
            split at he
            · rename_i hl
              rw [if_pos hl]
              have hP := quoU_P _ _ _ _ _ hh (by simp)
              have h1 : allP (strOfNums l) = true := by
                unfold allP
                rw [bs_nums, List.all_map, List.all_eq_true]
                intro v hv
                show isP _ = true
                rw [ub v (hP v hv)]; exact hP v hv
              have h2 : (strOfNums l).size = l.length := by simp [strOfNums, ByteArray.size]
              simp [oneB, h1, h2, hl]
            · cases he
          · cases he
        · cases hx : sgnO s with
          | none => rw [fir_nos hy hL' hD' hq hx] at he; cases he
          | some x =>
            rw [fir_sgn hy hL' hD' hq hx]
            exact sgns_one x (List.mem_of_find?_eq_some hx)
theorem rig_of_one {y : Yl} (hn : y.n ≤ 9223372036854775807) (h : oneB y = true) : rigB y = true := by
  obtain ⟨k, t, n, a, z, e⟩ := y
  rw [rig_any]
  unfold oneB at h
  simp only at h hn
  split at h
  · rename_i hk
    subst hk
    simp only [Bool.and_eq_true] at h
    obtain ⟨⟨h1, h2⟩, h3⟩ := h
    have h4 := keyN_mem h1
    rw [bs_ext ((bsEq_t _ _).mp h2)] at h4
    obtain rfl : n = 0 := of_decide_eq_true h3
    exact keys_rig t h4
  · split at h
    · rename_i hk
      subst hk
      simp only [Bool.and_eq_true] at h
      obtain ⟨h1, h3⟩ := h
      obtain rfl : n = 0 := of_decide_eq_true h3
      have h4 := h1
      unfold nameB wordB at h4
      simp only [Bool.and_eq_true] at h4
      obtain ⟨⟨h5, h6⟩, h7⟩ := h4
      cases hb : bs t with
      | nil => rw [hb] at h5; cases h5
      | cons c l =>
        rw [hb] at h5
        simp only [Bool.and_eq_true] at h5
        obtain ⟨h8, h9⟩ := h5
        have h9 := of_decide_eq_true h9
        rw [← hb] at h9
        have hw : wriT ⟨2, t, 0, 0, 0, 0⟩ = t := wri_o (by simp) (by simp)
        have hwr : wrdS t = t := bs_ext (by rw [bs_wrdS, h9, List.take_length])
        refine rig_mk (c := c) (l := l) (by rw [hw]; exact hb) (letP h8).1 (letP h8).2 (by intro h; cases h) ?_
        rw [hw, fir_name (y := c) (by rw [hb]; rfl) h8 (by rw [hwr]; simpa using h6) (by rw [hwr]; exact h1), hwr, h9, bs_len]
    · split at h
      · rename_i hk
        subst hk
        simp only [Bool.and_eq_true] at h
        obtain ⟨h1, h3⟩ := h
        have h3 := of_decide_eq_true h3
        obtain rfl : t = ⟨#[]⟩ := bs_ext ((bsEq_t _ _).mp h1)
        obtain ⟨u, rfl⟩ : ∃ u : Nat, n = (u : Int) := ⟨n.toNat, by omega⟩
        have hu : u ≤ 9223372036854775807 := by omega
        have hw : wriT ⟨3, ⟨#[]⟩, (u : Int), 0, 0, 0⟩ = itoS (u : Int) := wri_3 rfl
        have hdd := bs_ito u
        cases hdc : Lib.decDigits u with
        | nil => exact absurd hdc (dec_ne u)
        | cons d tl =>
          have hd1 := dec_dig u d (by rw [hdc]; simp)
          rw [hdc] at hdd
          have hp := digP hd1
          refine rig_mk (c := d) (l := tl) (by rw [hw]; exact hdd) hp.1 hp.2.1 (fun _ => rfl) ?_
          rw [hw, fir_num (y := d) (by rw [hdd]; rfl) hp.2.2 hd1, num_dec hu]
      · split at h
        · rename_i hk
          subst hk
          simp only [Bool.and_eq_true] at h
          obtain ⟨⟨h1, h2⟩, h3⟩ := h
          obtain rfl : n = 0 := of_decide_eq_true h3
          have hP : ∀ v ∈ numS t, isP v = true := fun v hv => by
            obtain ⟨c, hc, rfl⟩ := List.mem_map.1 hv
            exact List.all_eq_true.1 h1 c hc
          have ht : strOfNums (numS t) = t := bs_ext (by
            rw [bs_nums]
            unfold numS
            rw [List.map_map]
            refine (List.map_congr_left fun c _ => ?_).trans (List.map_id _)
            simp)
          have hl : (numS t).length ≤ 64 := by rw [numS_len]; simpa using h2
          have hw : wriT ⟨4, t, 0, 0, 0, 0⟩ = quoS t := wri_4 rfl
          obtain ⟨hb1, r, hb2⟩ := quo_back hP hl
          rw [ht] at hb1 hb2
          refine rig_mk (c := 39) (l := r) (by rw [hw]; exact hb2) (by decide) (by decide) (by intro h; cases h) ?_
          rw [hw, fir_quo (y := 39) (by rw [hb2]; rfl) (by decide) (by decide) (by decide), hb1]
        · split at h
          · rename_i hk
            subst hk
            simp only [Bool.and_eq_true] at h
            obtain ⟨h1, h3⟩ := h
            obtain rfl : n = 0 := of_decide_eq_true h3
            exact sgns_rig t (inK_mem h1)
          · cases h
theorem rig_one {y : Yl} (hn : y.n ≤ 9223372036854775807) : rigB y = oneB y := by
  rw [Bool.eq_iff_iff]
  refine ⟨fun h => ?_, rig_of_one hn⟩
  have hf := (rig_fir h).1
  have := fir_one (s := wriT y) (by rw [hf]) 0 0 0
  rw [hf] at this
  obtain ⟨k, t, n, a, z, e⟩ := y
  rw [one_any]; exact this
/-- May these be tokens, by definition? -/
def rgtB (l : List Yl) : Bool := l.all oneB && decide (l.length ≤ 300)
theorem chk_rgt {l : List Yl} (hin : TokInL l) : chkN l = if rgtB l = true then 0 else 202 := by
  have e : l.all rigB = l.all oneB := by
    rw [Bool.eq_iff_iff, List.all_eq_true, List.all_eq_true]
    exact ⟨fun h y hy => by rw [← rig_one (hin y hy).1.2]; exact h y hy, fun h y hy => by rw [rig_one (hin y hy).1.2]; exact h y hy⟩
  unfold chkN rgtB
  rw [e]
  by_cases h1 : l.all oneB = true
  · by_cases h2 : l.length ≤ 300
    · simp [h1, h2]
    · simp [h1, h2]
  · simp [h1]
theorem prt_no {l : List Yl} (hin : TokInL l) (h : rgtB l = false) : chkN l = 202 ∧ prT l = (⟨#[]⟩, 202) := by
  have h1 := chk_rgt hin
  rw [h] at h1
  simp at h1
  exact ⟨h1, by rw [prT_no (by omega), h1]⟩
theorem prt_long {l : List Yl} (hin : TokInL l) (h : rgtB l = true) (hl : 1024 < (txtS l).size) : chkN l = 0 ∧ prT l = (⟨#[]⟩, 3) := by
  have h1 := chk_rgt hin
  rw [h] at h1
  simp at h1
  exact ⟨h1, prT_long h1 hl⟩
theorem prt_ok {l : List Yl} (hin : TokInL l) (h : rgtB l = true) (hl : ¬ 1024 < (txtS l).size) : chkN l = 0 ∧ prT l = (txtS l, 0) := by
  have h1 := chk_rgt hin
  rw [h] at h1
  simp at h1
  exact ⟨h1, prT_ok h1 hl⟩
/-- So many tokens' text. -/
def txk (l : List Yl) (k : Nat) : ByteArray := txtS (l.take k)
theorem jn_snoc : ∀ (l : List Yl) (y : Yl), l ≠ [] → jn (l ++ [y]) = jn l ++ 32 :: bs (wriT y)
  | [], y, h => absurd rfl h
  | [x], y, _ => by rw [List.singleton_append, jn_2, jn_1, jn_1]
  | x :: z :: l, y, _ => by
    have := jn_snoc (z :: l) y (by simp)
    rw [List.cons_append, List.cons_append, jn_2, ← List.cons_append, this, jn_2]; simp
theorem bs_app (a b : ByteArray) : bs (a ++ b) = bs a ++ bs b := by simp [bs]
theorem txk_0 (l : List Yl) : txk l 0 = ⟨#[]⟩ := by unfold txk; exact bs_ext (by rw [bs_txt]; rfl)
theorem txk_a {l : List Yl} {k : Nat} {y : Yl} (hy : l[k]? = some y) (hk : ¬ 0 < k) : txk l k ++ wriT y = txk l (k + 1) := by
  obtain rfl : k = 0 := by omega
  refine bs_ext ?_
  rw [bs_app, txk_0]
  unfold txk
  rw [bs_txt, List.take_add_one, hy]
  simp [jn_1, bs]
theorem txk_b {l : List Yl} {k : Nat} {y : Yl} (hy : l[k]? = some y) (hk : 0 < k) : txk l k ++ ⟨#[32]⟩ ++ wriT y = txk l (k + 1) := by
  have hlt := (List.getElem?_eq_some_iff.1 hy).1
  refine bs_ext ?_
  rw [bs_app, bs_app]
  unfold txk
  rw [bs_txt, bs_txt, List.take_add_one, hy]
  show _ = jn (l.take k ++ [y])
  rw [jn_snoc _ _ (by intro h; have := congrArg List.length h; rw [List.length_take, List.length_nil] at this; omega)]
  simp [bs]
theorem txk_e {l : List Yl} {k : Nat} (hk : l.length ≤ k) : txk l k = txtS l := by unfold txk; rw [List.take_of_length_le hk]
/-- Digits one by one. -/
theorem enc_dig {m : Int} (h0 : 0 ≤ m) (h1 : m < 128) : Utf8.encode m = ⟨#[UInt8.ofNat m.toNat]⟩ := by
  have hv : Utf8.valid m = true := by rw [validRune_eq]; unfold validRune; exact decide_eq_true (by omega)
  unfold Utf8.encode
  simp only [hv, if_true]
  rw [if_pos (by omega)]
def digR (n : Int) (m : Int) (s : ByteArray) : Prop := 0 ≤ m ∧ m ≤ n ∧ (Lib.decDigits n.toNat = Lib.decDigits m.toNat ++ bs s)
theorem digR_0 {n : Int} (h : 0 ≤ n) : digR n n ⟨#[]⟩ := ⟨h, Int.le_refl _, by simp [bs]⟩
theorem digR_s {n m : Int} {s : ByteArray} (h : digR n m s) (hm : ¬ m / 10 = 0) : digR n (m / 10) (⟨#[UInt8.ofNat (48 + m % 10).toNat]⟩ ++ s) := by
  obtain ⟨h1, h2, h3⟩ := h
  refine ⟨by omega, by omega, ?_⟩
  rw [h3, bs_app]
  conv => lhs; rw [Lib.decDigits]
  rw [dif_neg (by omega), show (m / 10).toNat = m.toNat / 10 by omega, show (48 + m % 10).toNat = 48 + m.toNat % 10 by omega]
  simp [bs]
theorem digR_e {n m : Int} {s : ByteArray} (hn : 0 ≤ n) (h : digR n m s) (hm : m / 10 = 0) : ⟨#[UInt8.ofNat (48 + m % 10).toNat]⟩ ++ s = itoS n := by
  obtain ⟨h1, h2, h3⟩ := h
  refine bs_ext ?_
  obtain ⟨u, rfl⟩ : ∃ u : Nat, n = (u : Int) := ⟨n.toNat, by omega⟩
  rw [bs_ito, bs_app]
  rw [Int.toNat_natCast] at h3
  rw [h3]
  conv => rhs; rw [Lib.decDigits]
  rw [dif_pos (by omega), show (48 + m % 10).toNat = 48 + m.toNat by omega]
  simp [bs]
end Go.Proofs.YtekpmlfcmnlmiaaGreatDoor

namespace Go.Proofs.YtekpmlfcmnlmiaaGreatDoor
open Go.RowKit
set_option linter.unusedVariables false
set_option linter.unusedSimpArgs false

/-- Blanks and remarks that are whole. -/
def ahOk (A : List UInt8) : Prop := ∀ x, blk false (A ++ x) = A.length + blk false x
/-- A token, so much further. -/
def shY (d : Nat) (y : Yl) : Yl := { y with a := y.a + d, z := y.z + d }
end Go.Proofs.YtekpmlfcmnlmiaaGreatDoor
