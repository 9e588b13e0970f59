/- Values, there and back: the plain law. No condition. -/
import Derived.Test.YtdcemcobldpcnaaDoorVS
namespace Go.Proofs.YtdcemcobldpcnaaDoor
open Go.RowKit
theorem be8 (x : Int) : beN x 8 = [x / 72057594037927936 % 256, x / 281474976710656 % 256, x / 1099511627776 % 256, x / 4294967296 % 256, x / 16777216 % 256, x / 65536 % 256, x / 256 % 256, x % 256] := by
  simp [beN, List.range_succ, byt]
theorem num_be {x : Int} (h0 : 0 ≤ x) (h1 : x < 18446744073709551616) (raw : List Int) : numL (beN x 8 ++ raw) 8 = x := by
  rw [numL, List.take_append_of_le_length (by rw [beN_len]; exact Nat.le_refl _), List.take_of_length_le (by rw [beN_len]; exact Nat.le_refl _), be8]
  simp only [List.foldl_cons, List.foldl_nil]
  omega
theorem be_num {r : List Int} (hr : isB1 r) (h8 : 8 ≤ r.length) : beN (numL r 8) 8 = r.take 8 := by
  rcases r with _ | ⟨a, _ | ⟨b, _ | ⟨c, _ | ⟨d, _ | ⟨e, _ | ⟨f, _ | ⟨g, _ | ⟨i, r⟩⟩⟩⟩⟩⟩⟩⟩ <;> try (simp at h8; done)
  have h1 := hr a (by simp)
  have h2 := hr b (by simp)
  have h3 := hr c (by simp)
  have h4 := hr d (by simp)
  have h5 := hr e (by simp)
  have h6 := hr f (by simp)
  have h7 := hr g (by simp)
  have h9 := hr i (by simp)
  clear hr
  rw [be8, numL]
  simp only [List.take_succ_cons, List.take_zero, List.foldl_cons, List.foldl_nil, List.cons.injEq, and_true]
  refine ⟨?_, ?_, ?_, ?_, ?_, ?_, ?_, ?_⟩ <;> omega
theorem esc_ne (u raw : List Int) : ∃ d q, escL u ++ raw = d :: q := by
  rcases u with _ | ⟨x, u⟩
  · exact ⟨0, 0 :: raw, rfl⟩
  · rw [escL_cons]
    by_cases hx : x = 0
    · subst hx; exact ⟨0, 255 :: (escL u ++ raw), by simp [esc1]⟩
    · exact ⟨x, escL u ++ raw, by simp [esc1, hx]⟩
theorem scan_z {d : Int} {r out : List Int} {m : Nat} (hd : d = 255) (ho : out.length ≠ 64) : scan (0 :: d :: r) out m = scan r (out ++ [0]) (m + 2) := by
  subst hd; simp [scan, ho]
theorem scan_c {c d : Int} {r out : List Int} {m : Nat} (hc : c ≠ 0) (ho : out.length ≠ 64) : scan (c :: d :: r) out m = scan (d :: r) (out ++ [c]) (m + 1) := by
  simp [scan, hc, ho]
theorem scan_esc (raw : List Int) : ∀ (u out : List Int) (m : Nat), out.length + u.length ≤ 64 → scan (escL u ++ raw) out m = (0, out ++ u, m + (escL u).length)
  | [], out, m, _ => by simp [escL_nil, scan]
  | x :: u, out, m, h => by
    rw [List.length_cons] at h
    have ho : out.length ≠ 64 := by omega
    by_cases hx : x = 0
    · subst hx
      have e : escL (0 :: u) ++ raw = 0 :: 255 :: (escL u ++ raw) := by simp [escL_cons, esc1]
      rw [e, scan_z rfl ho, scan_esc raw u _ _ (by simp; omega), escL_cons]
      simp [esc1]; omega
    · obtain ⟨d, q, hq⟩ := esc_ne u raw
      have e : escL (x :: u) ++ raw = x :: (escL u ++ raw) := by simp [escL_cons, esc1, hx]
      rw [e, hq, scan_c hx ho, ← hq, scan_esc raw u _ _ (by simp; omega), escL_cons]
      simp [esc1, hx]; omega
theorem scan_short : ∀ (u out : List Int) (m j : Nat), out.length + u.length ≤ 64 → j < (escL u).length → scan ((escL u).take j) out m = (7, [], 0)
  | [], out, m, 0, _, _ => by simp [scan]
  | [], out, m, 1, _, _ => by simp [escL_nil, scan]
  | [], out, m, j + 2, _, h => by simp [escL_nil] at h; omega
  | x :: u, out, m, 0, _, _ => by simp [scan]
  | x :: u, out, m, j + 1, h, hj => by
    rw [List.length_cons] at h
    have ho : out.length ≠ 64 := by omega
    by_cases hx : x = 0
    · subst hx
      have e : escL (0 :: u) = 0 :: 255 :: escL u := by simp [escL_cons, esc1]
      rw [e] at hj ⊢
      rcases j with _ | j
      · simp [scan]
      · simp only [List.take_succ_cons]
        rw [scan_z rfl ho]
        exact scan_short u _ _ j (by simp; omega) (by simp at hj; omega)
    · have e : escL (x :: u) = x :: escL u := by simp [escL_cons, esc1, hx]
      rw [e] at hj ⊢
      rcases j with _ | j
      · simp [scan, hx, ho]
      · have ih := scan_short u (out ++ [x]) (m + 1) (j + 1) (by simp; omega) (by simp at hj; omega)
        obtain ⟨d, q, hq⟩ := esc_ne u []
        rw [List.append_nil] at hq
        rw [List.take_succ_cons, hq, List.take_succ_cons, scan_c hx ho, ← List.take_succ_cons, ← hq, ih]
theorem scan_back : ∀ (r out : List Int) (m : Nat) {o : List Int} {n : Nat}, scan r out m = (0, o, n) → out.length ≤ 64 → ∃ u r', o = out ++ u ∧ r = escL u ++ r' ∧ n = m + (escL u).length ∧ o.length ≤ 64
  | [], out, m, o, n, h, _ => by simp [scan] at h
  | [c], out, m, o, n, h, _ => by
    simp only [scan] at h
    split at h
    · simp at h
    · split at h <;> simp at h
  | c :: d :: r, out, m, o, n, h, hl => by
    simp only [scan] at h
    split at h
    · rename_i hc
      split at h
      · rename_i hd
        simp only [Prod.mk.injEq, true_and] at h
        refine ⟨[], r, by simp [h.1], by rw [hc, hd]; rfl, by rw [← h.2]; rfl, by rw [← h.1]; exact hl⟩
      · split at h
        · simp at h
        · rename_i hd
          split at h
          · simp at h
          · rename_i h64
            obtain ⟨u, r', h1, h2, h3, h4⟩ := scan_back r (out ++ [0]) (m + 2) h (by simp; omega)
            have hd : d = 255 := by simpa using hd
            refine ⟨0 :: u, r', by rw [h1]; simp, by rw [escL_cons, hc, hd, h2]; simp [esc1], by rw [h3, escL_cons]; simp [esc1]; omega, h4⟩
    · rename_i hc
      split at h
      · simp at h
      · rename_i h64
        obtain ⟨u, r', h1, h2, h3, h4⟩ := scan_back (d :: r) (out ++ [c]) (m + 1) h (by simp; omega)
        refine ⟨c :: u, r', by rw [h1]; simp, by rw [escL_cons, h2]; simp [esc1, hc], by rw [h3, escL_cons]; simp [esc1, hc]; omega, h4⟩
theorem bi_str {l : List Int} (h : isB1 l) : bi (strOfNums l) = l := by
  show (l.map fun n => UInt8.ofNat n.toNat).map (fun c => (c.toNat : Int)) = l
  rw [List.map_map]
  conv => rhs; rw [← List.map_id l]
  refine List.map_congr_left fun x hx => ?_
  exact u8_n (h x hx)
theorem str_bi (u : ByteArray) : strOfNums (bi u) = u := bi_inj (bi_str (isB1_bi u))
theorem str_len (l : List Int) : (strOfNums l).size = l.length := by
  rw [← bs_size]
  show (l.map fun n => UInt8.ofNat n.toNat).length = _
  rw [List.length_map]
theorem right_4 {v : Val} (h : rightB v = true) (hk : v.k = 4) : (bi v.t).length ≤ 64 := by
  simp [rightB, hk] at h
  rw [bi_len]; exact h.2
theorem back_all {v : Val} (h : rightB v = true) (hn : I64 v.n) (raw : List Int) : decP (encV v ++ raw) = (v, ((encV v).length : Int), (0 : Int)) := by
  obtain ⟨k, n, t⟩ := v
  rcases right_enc h with ⟨h1, h2, h3, h4⟩ | ⟨h1, h2, h3, h4⟩ | ⟨h1, h3, h4⟩ | ⟨h1, h2, h4⟩ <;> rw [h4] <;> simp only at h1
  · simp only at h2 h3; subst h1 h2 h3; simp [decP]
  · simp only at h2 h3; subst h1 h3
    have : ¬ 1 < n := by omega
    simp [decP, this]
  · simp only at h3; subst h1 h3
    simp only at hn
    unfold I64 at hn
    have e1 : (beN (n + 9223372036854775808) 8 ++ raw).length = 8 + raw.length := by rw [List.length_append, beN_len]
    have e2 : ¬ 8 + raw.length < 8 := by omega
    have e3 : n + 9223372036854775808 - 9223372036854775808 = n := by omega
    rw [List.cons_append]
    simp only [decP, e1, num_be (show 0 ≤ n + 9223372036854775808 by omega) (by omega)]
    simp [e2, e3, beN_len]
  · simp only at h2; subst h1 h2
    have h5 := right_4 h rfl
    have e := scan_esc raw (bi t) [] 1 (by simpa using h5)
    rw [List.nil_append] at e
    rw [List.cons_append]
    simp only [decP, e]
    simp [str_bi]; omega
theorem back_cut {v : Val} (h : rightB v = true) {j : Nat} (hj : j < (encV v).length) : (decP ((encV v).take j)).2.2 = 7 := by
  rcases j with _ | j
  · simp [decP]
  rcases right_enc h with ⟨h1, h2, h3, h4⟩ | ⟨h1, h2, h3, h4⟩ | ⟨h1, h3, h4⟩ | ⟨h1, h2, h4⟩ <;> rw [h4] at hj ⊢ <;> simp only [List.length_cons, List.length_nil] at hj
  · omega
  · obtain rfl : j = 0 := by omega
    simp [decP]
  · rw [beN_len] at hj
    rw [List.take_succ_cons]
    have : ((beN (v.n + 9223372036854775808) 8).take j).length < 8 := by rw [List.length_take, beN_len]; omega
    simp only [decP, this]; simp
  · have e := scan_short (bi v.t) [] 1 j (by simpa using right_4 h h1) (by omega)
    rw [List.take_succ_cons]
    simp only [decP, e]; simp
theorem back_dec {l : List Int} (hB : isB1 l) (h : (decP l).2.2 = 0) : rightB (decP l).1 = true ∧ I64 (decP l).1.n ∧ ∃ n : Nat, (decP l).2.1 = n ∧ n ≤ l.length ∧ encV (decP l).1 = l.take n := by
  rcases l with _ | ⟨k, r⟩
  · simp [decP] at h
  have hr : isB1 r := fun x hx => hB x (List.mem_cons_of_mem _ hx)
  by_cases h1 : k = 1
  · subst h1
    have e : decP (1 :: r) = ((⟨1, 0, ⟨#[]⟩⟩ : Val), (1 : Int), (0 : Int)) := by simp [decP]
    rw [e]
    have hR : rightB ⟨1, 0, ⟨#[]⟩⟩ = true := by decide
    exact ⟨hR, by unfold I64; simp, 1, rfl, by simp, by rw [enc_1 hR rfl]; simp⟩
  by_cases h2 : k = 2
  · subst h2
    rcases r with _ | ⟨c, r⟩
    · simp [decP] at h
    · by_cases hc : 1 < c
      · simp [decP, hc] at h
      · have e : decP (2 :: c :: r) = ((⟨2, c, ⟨#[]⟩⟩ : Val), (2 : Int), (0 : Int)) := by simp [decP, hc]
        have h01 : c = 0 ∨ c = 1 := by have := hr c (by simp); omega
        have hR : rightB ⟨2, c, ⟨#[]⟩⟩ = true := by rcases h01 with rfl | rfl <;> decide
        rw [e]
        exact ⟨hR, by unfold I64; simp only; omega, 2, rfl, by simp, by rw [enc_2 hR rfl h01]; simp⟩
  by_cases h3 : k = 3
  · subst h3
    by_cases h8 : r.length < 8
    · simp [decP, h8] at h
    · have e : decP (3 :: r) = ((⟨3, numL r 8 - 9223372036854775808, ⟨#[]⟩⟩ : Val), (9 : Int), (0 : Int)) := by simp [decP, h8]
      have hl := numL_lt hr 8
      rw [show (256 : Int) ^ 8 = 18446744073709551616 by decide] at hl
      have hR : rightB ⟨3, numL r 8 - 9223372036854775808, ⟨#[]⟩⟩ = true := by simp [rightB, bsEq_t]
      rw [e]
      refine ⟨hR, by unfold I64; simp only; omega, 9, rfl, by simp; omega, ?_⟩
      rw [enc_3 hR rfl]
      simp only
      rw [show numL r 8 - 9223372036854775808 + 9223372036854775808 = numL r 8 by omega, be_num hr (by omega)]; simp
  by_cases h4 : k = 4
  · subst h4
    by_cases hs : (scan r [] 1).1 = 0
    · obtain ⟨o, n, e0⟩ : ∃ o n, scan r [] 1 = (0, o, n) := ⟨_, _, by rw [← hs]⟩
      obtain ⟨u, r', g1, g2, g3, g4⟩ := scan_back r [] 1 e0 (by simp)
      rw [List.nil_append] at g1
      subst g1
      have hu : isB1 o := fun x hx => by
        have : x ∈ escL o := by
          unfold escL
          refine List.mem_append_left _ (List.mem_flatMap.2 ⟨x, hx, ?_⟩)
          unfold esc1; split <;> simp_all
        exact hr x (by rw [g2]; exact List.mem_append_left _ this)
      have e : decP (4 :: r) = ((⟨4, 0, strOfNums o⟩ : Val), (n : Int), (0 : Int)) := by simp [decP, e0]
      have hR : rightB ⟨4, 0, strOfNums o⟩ = true := by simp [rightB, str_len, g4]
      rw [e]
      refine ⟨hR, by unfold I64; simp, n, rfl, ?_, ?_⟩
      · rw [g3, List.length_cons, g2, List.length_append]; omega
      · rw [enc_4 hR rfl, bi_str hu, g3, Nat.add_comm, List.take_succ_cons, g2, List.take_append_of_le_length (Nat.le_refl _), List.take_of_length_le (Nat.le_refl _)]
    · simp [decP, hs] at h
  · simp [decP, h1, h2, h3, h4] at h
theorem enc_len {v : Val} (h : rightB v = true) : 1 ≤ (encV v).length ∧ (encV v).length ≤ 131 := by
  rcases right_enc h with ⟨h1, h2, h3, h4⟩ | ⟨h1, h2, h3, h4⟩ | ⟨h1, h3, h4⟩ | ⟨h1, h2, h4⟩ <;> rw [h4] <;> simp only [List.length_cons, List.length_nil]
  · omega
  · omega
  · rw [beN_len]; omega
  · have h5 := right_4 h h1
    have h6 : (escL (bi v.t)).length ≤ 2 * (bi v.t).length + 2 := by
      have := escT_len v.t v.t.size
      rw [escT_all] at this
      rw [bi_len, escL, List.length_append]; simp only [List.length_cons, List.length_nil]; omega
    omega
end Go.Proofs.YtdcemcobldpcnaaDoor
