/- The plain law of ConfGrows: as far as it is told more than half are, and no further; nobody who comes further takes it back. No condition. -/
import Derived.Test.YtonfbinkjhbpiaaA5
namespace Go.Proofs.Ytonfbinkjhbpiaa
open Go.RowKit Go.Shelf
set_option linter.unusedVariables false
set_option linter.unusedSimpArgs false

theorem comeN_le (ps : List (Int × Int)) (M v : Int) : v ≤ comeN ps M ↔ v ≤ 0 ∨ ∃ p ∈ ps, p.1 = M ∧ v ≤ p.2 := by
  suffices H : ∀ (ps : List (Int × Int)) (f : Int), v ≤ ps.foldl (fun f p => if p.1 = M ∧ f < p.2 then p.2 else f) f ↔ v ≤ f ∨ ∃ p ∈ ps, p.1 = M ∧ v ≤ p.2 from H ps 0
  intro ps
  induction ps with
  | nil => intro f; simp
  | cons q ps ih =>
    intro f
    rw [List.foldl_cons, ih]
    simp only [List.mem_cons]
    by_cases hq : q.1 = M
    · by_cases hf : f < q.2
      · rw [if_pos ⟨hq, hf⟩]
        constructor
        · rintro (h | ⟨p, hp, h⟩)
          · exact .inr ⟨q, .inl rfl, hq, h⟩
          · exact .inr ⟨p, .inr hp, h⟩
        · rintro (h | ⟨p, rfl | hp, h1, h2⟩)
          · exact .inl (by omega)
          · exact .inl h2
          · exact .inr ⟨p, hp, h1, h2⟩
      · rw [if_neg (fun h => hf h.2)]
        constructor
        · rintro (h | ⟨p, hp, h⟩)
          · exact .inl h
          · exact .inr ⟨p, .inr hp, h⟩
        · rintro (h | ⟨p, rfl | hp, h1, h2⟩)
          · exact .inl h
          · exact .inl (by omega)
          · exact .inr ⟨p, hp, h1, h2⟩
    · rw [if_neg (fun h => hq h.1)]
      constructor
      · rintro (h | ⟨p, hp, h⟩)
        · exact .inl h
        · exact .inr ⟨p, .inr hp, h⟩
      · rintro (h | ⟨p, rfl | hp, h1, h2⟩)
        · exact .inl h
        · exact absurd h1 hq
        · exact .inr ⟨p, hp, h1, h2⟩
theorem comeN_nonneg (ps : List (Int × Int)) (M : Int) : 0 ≤ comeN ps M := (comeN_le ps M 0).2 (.inl (Int.le_refl _))
theorem comeN_ext {ps qs : List (Int × Int)} {M : Int} (h : ∀ v, 0 < v → ((∃ p ∈ ps, p.1 = M ∧ v ≤ p.2) ↔ ∃ p ∈ qs, p.1 = M ∧ v ≤ p.2)) : comeN ps M = comeN qs M := by
  have key : ∀ v, v ≤ comeN ps M ↔ v ≤ comeN qs M := fun v => by
    rw [comeN_le, comeN_le]
    by_cases hv : v ≤ 0
    · simp [hv]
    · rw [h v (by omega)]
  exact Int.le_antisymm ((key _).1 (Int.le_refl _)) ((key _).2 (Int.le_refl _))

/-- More than half are as far as v. -/
def majV (l : List Int) (ps : List (Int × Int)) (v : Int) : Bool := rmajB l (setN l ps v)
theorem inN_le {l r s : List Int} (h : ∀ m ∈ l, m ∈ r → m ∈ s) : inN l r ≤ inN l s := by
  unfold inN
  induction l with
  | nil => simp
  | cons m l ih =>
    have ih' := ih fun x hx => h x (by simp [hx])
    have hm := h m (by simp)
    by_cases h1 : m ∈ r
    · have h2 := hm h1
      rw [List.filter_cons_of_pos (by simpa using h1), List.filter_cons_of_pos (by simpa using h2)]
      simp only [List.length_cons]
      omega
    · rw [List.filter_cons_of_neg (by simpa using h1)]
      by_cases h2 : m ∈ s
      · rw [List.filter_cons_of_pos (by simpa using h2)]; simp only [List.length_cons]; omega
      · rw [List.filter_cons_of_neg (by simpa using h2)]; exact ih'
theorem rmajB_mono {l r s : List Int} (h : ∀ m ∈ l, m ∈ r → m ∈ s) (hr : rmajB l r = true) : rmajB l s = true := by
  have := inN_le h
  unfold rmajB at hr ⊢
  simp only [decide_eq_true_eq] at hr ⊢
  omega
theorem mem_setN {l : List Int} {ps : List (Int × Int)} {v m : Int} : m ∈ setN l ps v ↔ m ∈ l ∧ v ≤ comeN ps m := by
  unfold setN
  rw [List.mem_filter]
  simp
theorem rmajB_some {l r : List Int} (h : rmajB l r = true) : ∃ m ∈ l, m ∈ r := by
  unfold rmajB at h
  simp only [decide_eq_true_eq] at h
  have : 0 < inN l r := by omega
  unfold inN at this
  obtain ⟨m, hm⟩ := List.exists_mem_of_length_pos this
  rw [List.mem_filter] at hm
  exact ⟨m, hm.1, by simpa using hm.2⟩

theorem ragN_le (l : List Int) (ps : List (Int × Int)) (pre : List Int) (v : Int) : v ≤ ragN l ps pre ↔ v ≤ 0 ∨ ∃ m ∈ pre, majV l ps (comeN ps m) = true ∧ v ≤ comeN ps m := by
  suffices H : ∀ (pre : List Int) (b : Int), v ≤ pre.foldl (fun b m => if rmajB l (setN l ps (comeN ps m)) = true ∧ b < comeN ps m then comeN ps m else b) b ↔ v ≤ b ∨ ∃ m ∈ pre, majV l ps (comeN ps m) = true ∧ v ≤ comeN ps m from H pre 0
  intro pre
  induction pre with
  | nil => intro b; simp
  | cons q pre ih =>
    intro b
    rw [List.foldl_cons, ih]
    simp only [List.mem_cons]
    by_cases hc : rmajB l (setN l ps (comeN ps q)) = true
    · by_cases hb : b < comeN ps q
      · rw [if_pos ⟨hc, hb⟩]
        constructor
        · rintro (h | ⟨p, hp, h⟩)
          · exact .inr ⟨q, .inl rfl, hc, h⟩
          · exact .inr ⟨p, .inr hp, h⟩
        · rintro (h | ⟨p, rfl | hp, h1, h2⟩)
          · exact .inl (by omega)
          · exact .inl h2
          · exact .inr ⟨p, hp, h1, h2⟩
      · rw [if_neg (fun h => hb h.2)]
        constructor
        · rintro (h | ⟨p, hp, h⟩)
          · exact .inl h
          · exact .inr ⟨p, .inr hp, h⟩
        · rintro (h | ⟨p, rfl | hp, h1, h2⟩)
          · exact .inl h
          · exact .inl (by omega)
          · exact .inr ⟨p, hp, h1, h2⟩
    · rw [if_neg (fun h => hc h.1)]
      constructor
      · rintro (h | ⟨p, hp, h⟩)
        · exact .inl h
        · exact .inr ⟨p, .inr hp, h⟩
      · rintro (h | ⟨p, rfl | hp, h1, h2⟩)
        · exact .inl h
        · exact absurd h1 hc
        · exact .inr ⟨p, hp, h1, h2⟩

theorem exists_least (f : Int → Int) : ∀ (l : List Int), l ≠ [] → ∃ m ∈ l, ∀ n ∈ l, f m ≤ f n
  | [], h => absurd rfl h
  | [m], _ => ⟨m, by simp, by simp⟩
  | m :: n :: l, _ => by
    obtain ⟨k, hk, hle⟩ := exists_least f (n :: l) (by simp)
    by_cases h : f m ≤ f k
    · exact ⟨m, by simp, fun x hx => by
        rcases List.mem_cons.1 hx with rfl | hx
        · exact Int.le_refl _
        · have := hle x hx; omega⟩
    · exact ⟨k, by simp at hk ⊢; exact .inr hk, fun x hx => by
        rcases List.mem_cons.1 hx with rfl | hx
        · omega
        · exact hle x hx⟩

/-- As far as it is told more than half are, and no further. -/
theorem majV_iff (l : List Int) (ps : List (Int × Int)) (v : Int) (hv : 0 < v) : majV l ps v = true ↔ v ≤ ragN l ps l := by
  rw [ragN_le]
  constructor
  · intro h
    refine .inr ?_
    obtain ⟨m0, hm0, hs0⟩ := rmajB_some h
    obtain ⟨m, hm, hle⟩ := exists_least (comeN ps) (setN l ps v) (fun e => by rw [e] at hs0; simp at hs0)
    have hm' := mem_setN.1 hm
    refine ⟨m, hm'.1, rmajB_mono (fun n hn hs => mem_setN.2 ⟨hn, hle n hs⟩) h, hm'.2⟩
  · rintro (h | ⟨m, hm, h1, h2⟩)
    · omega
    · exact rmajB_mono (fun n hn hs => mem_setN.2 ⟨hn, by have := (mem_setN.1 hs).2; omega⟩) h1
theorem ragN_nonneg (l : List Int) (ps : List (Int × Int)) : 0 ≤ ragN l ps l := (ragN_le l ps l 0).2 (.inl (Int.le_refl _))

/-- Who has come as far. -/
def farS (ps : List (Int × Int)) (v : Int) : List Int := (ps.filter fun p => decide (v ≤ p.2)).map (·.1)
theorem farS_snoc (ps : List (Int × Int)) (p : Int × Int) (v : Int) : farS (ps ++ [p]) v = if v ≤ p.2 then farS ps v ++ [p.1] else farS ps v := by
  unfold farS
  rw [List.filter_append, List.map_append]
  by_cases h : v ≤ p.2
  · rw [List.filter_cons_of_pos (by simpa using h), if_pos h]; rfl
  · rw [List.filter_cons_of_neg (by simpa using h), if_neg h]; simp
theorem mem_farS {ps : List (Int × Int)} {v m : Int} : m ∈ farS ps v ↔ ∃ p ∈ ps, p.1 = m ∧ v ≤ p.2 := by
  unfold farS
  rw [List.mem_map]
  constructor
  · rintro ⟨p, hp, rfl⟩
    rw [List.mem_filter] at hp
    exact ⟨p, hp.1, rfl, by simpa using hp.2⟩
  · rintro ⟨p, hp, rfl, h⟩
    exact ⟨p, List.mem_filter.2 ⟨hp, by simpa using h⟩, rfl⟩
theorem far_maj (l : List Int) (ps : List (Int × Int)) (v : Int) (hv : 0 < v) : rmajB l (farS ps v) = majV l ps v := by
  have h : ∀ m ∈ l, (m ∈ farS ps v ↔ m ∈ setN l ps v) := fun m hm => by
    rw [mem_farS, mem_setN, comeN_le]
    constructor
    · intro h; exact ⟨hm, .inr h⟩
    · rintro ⟨_, h | h⟩
      · omega
      · exact h
  cases h1 : rmajB l (farS ps v) with
  | true => exact (rmajB_mono (fun m hm hs => (h m hm).1 hs) h1).symm
  | false =>
    cases h2 : majV l ps v with
    | false => rfl
    | true => rw [rmajB_mono (fun m hm hs => (h m hm).2 hs) h2] at h1; cases h1

theorem ragN_more (l : List Int) (ps : List (Int × Int)) (p : Int × Int) : ragN l ps l ≤ ragN l (ps ++ [p]) l := by
  by_cases h0 : ragN l ps l ≤ 0
  · have := ragN_nonneg l (ps ++ [p]); omega
  · refine (majV_iff l _ _ (by omega)).1 (rmajB_mono (fun m hm hs => mem_setN.2 ⟨hm, ?_⟩) ((majV_iff l ps _ (by omega)).2 (Int.le_refl _)))
    have := (mem_setN.1 hs).2
    rw [comeN_le] at this ⊢
    rcases this with h | ⟨q, hq, h⟩
    · exact .inl h
    · exact .inr ⟨q, by simp [hq], h⟩
theorem ragN_congr {l : List Int} {ps qs : List (Int × Int)} (h : ∀ m ∈ l, comeN ps m = comeN qs m) : ragN l ps l = ragN l qs l := by
  have hs : ∀ v, setN l ps v = setN l qs v := fun v => List.filter_congr fun m hm => by rw [h m hm]
  unfold ragN
  suffices H : ∀ (pre : List Int) (b : Int), (∀ m ∈ pre, m ∈ l) → pre.foldl (fun b m => if rmajB l (setN l ps (comeN ps m)) = true ∧ b < comeN ps m then comeN ps m else b) b = pre.foldl (fun b m => if rmajB l (setN l qs (comeN qs m)) = true ∧ b < comeN qs m then comeN qs m else b) b from H l 0 fun _ h => h
  intro pre
  induction pre with
  | nil => intro b _; rfl
  | cons m pre ih =>
    intro b hm
    rw [List.foldl_cons, List.foldl_cons, ih _ fun x hx => hm x (by simp [hx]), h m (hm m (by simp)), hs]
theorem ragN_other {l : List Int} {ps : List (Int × Int)} {p : Int × Int} (h : p.1 ∉ l) : ragN l (ps ++ [p]) l = ragN l ps l := by
  refine ragN_congr fun m hm => ?_
  rw [comeN_snoc, if_neg]
  rintro ⟨e, _⟩
  exact h (e ▸ hm)
theorem ragN_back (l : List Int) (ps : List (Int × Int)) : ragN l (ps.reverse ++ ps) l = ragN l ps l :=
  ragN_congr fun m _ => comeN_ext fun v _ => by simp
end Go.Proofs.Ytonfbinkjhbpiaa
