/- Which tokens a text has may be, and where they stand. No condition. -/
import Derived.Test.YtekpmlfcmnlmiaaDoorX8
namespace Go.Proofs.YtekpmlfcmnlmiaaDoor
open Go.RowKit
set_option linter.unusedVariables false
set_option linter.unusedSimpArgs false

/-- Nothing, or a blank. -/
def sepL (r : List UInt8) : Prop := r = [] ∨ ∃ q, r = 32 :: q
theorem endN_app {q : Int → Bool} (h32 : q 32 = false) : ∀ {p r r' : List UInt8}, endN q (p ++ r) = p.length → sepL r' → endN q (p ++ r') = p.length
  | [], r, r', _, hs => by
    rcases hs with rfl | ⟨x, rfl⟩
    · rfl
    · show endN q (32 :: x) = 0
      rw [endN_cons, if_neg]
      show ¬ q 32 = true
      simp [h32]
  | a :: p, r, r', h, hs => by
    rw [List.cons_append, endN_cons] at h ⊢
    split at h
    · rename_i ha
      rw [if_pos ha, endN_app h32 (r := r) (by simpa using h) hs]; simp
    · simp at h
theorem bs_wrdS (s : ByteArray) : bs (wrdS s) = (bs s).take (endN isW (bs s)) := by
  unfold wrdS
  rw [bs_extr]
  simp
theorem take_pre {p r : List UInt8} : (p ++ r).take p.length = p := by simp
theorem wrd_app {s s' : ByteArray} {p r r' : List UInt8} (h : bs s = p ++ r) (h' : bs s' = p ++ r') (hn : endN isW (bs s) = p.length) (hs : sepL r') : wrdS s' = wrdS s ∧ endN isW (bs s') = p.length ∧ bs (wrdS s) = p := by
  have e : endN isW (bs s') = p.length := by rw [h'] ; rw [h] at hn; exact endN_app (by decide) hn hs
  have e1 : bs (wrdS s) = p := by rw [bs_wrdS, hn, h, take_pre]
  refine ⟨bs_ext ?_, e, e1⟩
  rw [e1, bs_wrdS, e, h', take_pre]
theorem dig_app {s s' : ByteArray} {p r r' : List UInt8} (h : bs s = p ++ r) (h' : bs s' = p ++ r') (hn : endN isD (bs s) = p.length) (hs : sepL r') : digS s' = digS s ∧ endN isD (bs s') = p.length := by
  have e : endN isD (bs s') = p.length := by rw [h'] ; rw [h] at hn; exact endN_app (by decide) hn hs
  refine ⟨bs_ext ?_, e⟩
  rw [bs_digS, bs_digS, e, hn, h', h, take_pre, take_pre]
theorem lv_sep {s' : ByteArray} {p r' : List UInt8} (h' : bs s' = p ++ r') (hs : sepL r') : lvB s' p.length = false := by
  unfold lvB
  rw [h']
  rcases hs with rfl | ⟨q, rfl⟩
  · simp
  · simp; decide
theorem num_app {s s' : ByteArray} {p r r' : List UInt8} (h : bs s = p ++ r) (h' : bs s' = p ++ r') (he : (numT s).2.2 = 0) (hn : (numT s).2.1 = (p.length : Int)) (hs : sepL r') : numT s' = numT s := by
  have hd : endN isD (bs s) = p.length := by have := numT_len s he; omega
  obtain ⟨e1, e2⟩ := dig_app h h' hd hs
  have hl := lv_sep h' hs
  unfold numT at he ⊢
  rw [e1, e2, hd]
  rw [hd] at he
  cases hp : Lib.parseUintB 64 (bs (digS s)) with
  | ok u =>
    rw [hp] at he
    simp only at he ⊢
    by_cases hc : u ≤ 9223372036854775807 ∧ lvB s p.length = false
    · rw [if_pos hc, if_pos ⟨hc.1, hl⟩]
    · rw [if_neg hc] at he; cases he
  | _ => rfl
theorem quoU_app : ∀ {p r r' : List UInt8} {acc : List Int} {k : Nat} {res : List Int}, quoU (p ++ r) acc k = some (res, k + p.length) → sepL r' → quoU (p ++ r') acc k = some (res, k + p.length)
  | [], r, r', acc, k, res, h, hs => by
    have := quoU_len _ _ _ _ _ h
    simp at this
    omega
  | [c], r, r', acc, k, res, h, hs => by
    have key : isP (c.toNat : Int) = true ∧ c = 39 ∧ res = acc := by
      cases r with
      | nil =>
        simp only [List.cons_append, List.nil_append, quoU] at h
        split at h
        · rename_i hh; simp at h; exact ⟨hh.1, hh.2, h.symm⟩
        · cases h
      | cons d l =>
        simp only [List.cons_append, List.nil_append, List.length_singleton] at h
        rw [quoU] at h
        split at h
        · rename_i h1
          split at h
          · rename_i h2
            split at h
            · have := quoU_len _ _ _ _ _ h; omega
            · simp at h; exact ⟨h1, h2, h.symm⟩
          · have := quoU_len _ _ _ _ _ h; omega
        · cases h
    obtain ⟨h1, rfl, rfl⟩ := key
    rcases hs with rfl | ⟨q, rfl⟩
    · simp [quoU]
      decide
    · simp only [List.cons_append, List.nil_append, List.length_singleton]
      rw [quoU, if_pos h1, if_pos rfl, if_neg (by decide)]
  | c :: d :: p, r, r', acc, k, res, h, hs => by
    simp only [List.cons_append] at h ⊢
    rw [quoU] at h ⊢
    split at h
    · rename_i h1
      rw [if_pos h1]
      split at h
      · rename_i h2
        rw [if_pos h2]
        split at h
        · rename_i h3
          rw [if_pos h3]
          have e : k + (c :: d :: p).length = (k + 2) + p.length := by simp; omega
          rw [e] at h ⊢
          exact quoU_app h hs
        · simp at h
      · rename_i h2
        rw [if_neg h2]
        have e : k + (c :: d :: p).length = (k + 1) + (d :: p).length := by simp; omega
        rw [e] at h ⊢
        exact quoU_app (p := d :: p) h hs
    · cases h
theorem quo_app {s s' : ByteArray} {p r r' : List UInt8} (h : bs s = p ++ r) (h' : bs s' = p ++ r') (h1 : p ≠ []) (he : (quoT s).2.2 = 0) (hn : (quoT s).2.1 = (p.length : Int)) (hs : sepL r') : quoT s' = quoT s := by
  cases p with
  | nil => exact absurd rfl h1
  | cons c p =>
    unfold quoT at he hn ⊢
    have e1 : (bs s).drop 1 = p ++ r := by rw [h]; rfl
    have e2 : (bs s').drop 1 = p ++ r' := by rw [h']; rfl
    rw [e1] at he hn ⊢
    rw [e2]
    cases hq : quoU (p ++ r) [] 1 with
    | none => rw [hq] at he; cases he
    | some x =>
      obtain ⟨l, k⟩ := x
      rw [hq] at he hn
      simp only at he hn ⊢
      by_cases hl : l.length ≤ 64
      · rw [if_pos hl] at hn
        simp only [List.length_cons] at hn
        obtain rfl : k = 1 + p.length := by omega
        rw [quoU_app hq hs]
      · rw [if_neg hl] at he; cases he
theorem hasP_iff (l p : List UInt8) : Lib.hasPrefix l p = true ↔ p <+: l := by simp only [Lib.hasPrefix, List.isPrefixOf_iff_prefix]
theorem sgns_32 : ∀ z ∈ sgns, (32 : UInt8) ∉ bs z := by decide +kernel
theorem sgn_app {s s' x : ByteArray} {p r r' : List UInt8} (h : bs s = p ++ r) (h' : bs s' = p ++ r') (hx : sgnO s = some x) (hn : (x.size : Int) = (p.length : Int)) (hs : sepL r') : sgnO s' = some x ∧ bs x = p := by
  have hl := bs_len x
  have hp := List.find?_some hx
  rw [hasP_iff] at hp
  have hxp : bs x = p := by
    rw [h] at hp
    have := List.prefix_iff_eq_take.1 hp
    rw [this, hl, show x.size = p.length by omega, take_pre]
  refine ⟨?_, hxp⟩
  unfold sgnO at hx ⊢
  rw [List.find?_eq_some_iff_append] at hx ⊢
  obtain ⟨h1, la, bs1, h2, h3⟩ := hx
  refine ⟨by rw [hasP_iff, h', hxp]; exact List.prefix_append _ _, la, bs1, h2, fun z hz => ?_⟩
  have h4 := h3 z hz
  have hzm : z ∈ sgns := by rw [h2]; simp [hz]
  cases hc : Lib.hasPrefix (bs s') (bs z) with
  | false => rfl
  | true =>
    rw [hasP_iff, h'] at hc
    rcases Nat.lt_or_ge p.length (bs z).length with hlt | hge
    · exfalso
      rcases hs with rfl | ⟨q, rfl⟩
      · have := hc.length_le; simp at this; omega
      · refine sgns_32 z hzm ?_
        have e := List.prefix_iff_eq_take.1 hc
        have : (bs z)[p.length]? = some 32 := by rw [e, List.getElem?_take, if_pos hlt]; simp
        exact List.mem_of_getElem? this
    · have : bs z <+: bs s := by
        rw [h]
        exact (List.prefix_of_prefix_length_le hc (List.prefix_append _ _) hge).trans (List.prefix_append _ _)
      rw [← hasP_iff] at this
      rw [this] at h4; simp at h4
theorem sgn_bs {s x : ByteArray} (hx : sgnO s = some x) : bs x = (bs s).take x.size := by
  have hp := List.find?_some hx
  rw [hasP_iff] at hp
  have := List.prefix_iff_eq_take.1 hp
  rw [bs_len] at this
  exact this
/-- What a token is does not hang on what stands behind it. -/
theorem fir_app {s s' : ByteArray} {p r r' : List UInt8} (h : bs s = p ++ r) (h' : bs s' = p ++ r') (he : (firT s).2.2 = 0) (hn : (firT s).2.1 = (p.length : Int)) (hs : sepL r') : firT s' = firT s := by
  obtain ⟨m, h1, h2, h3⟩ := fir_len he
  cases p with
  | nil => simp at hn; omega
  | cons c p =>
    have hy : (bs s)[0]? = some c := by rw [h]; rfl
    have hy' : (bs s')[0]? = some c := by rw [h']; rfl
    by_cases hL : isL (c.toNat : Int) = true
    · by_cases hk : (keyN (wrdS s)).2 = true
      · have e := fir_key hy hL hk
        rw [e] at hn ⊢
        simp only at hn
        obtain ⟨w1, w2, _⟩ := wrd_app h h' (by omega) hs
        rw [fir_key hy' hL (by rw [w1]; exact hk), w1, w2, hn]
      · by_cases hm : nameB (wrdS s) = true
        · have e := fir_name hy hL (by simpa using hk) hm
          rw [e] at hn ⊢
          simp only at hn
          obtain ⟨w1, w2, _⟩ := wrd_app h h' (by omega) hs
          rw [fir_name hy' hL (by rw [w1]; simpa using hk) (by rw [w1]; exact hm), w1, w2, hn]
        · rw [fir_no hy hL (by simpa using hk) (by simpa using hm)] at he; cases he
    · have hL' : isL (c.toNat : Int) = false := by simpa using hL
      by_cases hD : isD (c.toNat : Int) = true
      · have e := fir_num hy hL' hD
        rw [e] at he hn ⊢
        rw [fir_num hy' hL' hD, num_app h h' he hn hs]
      · have hD' : isD (c.toNat : Int) = false := by simpa using hD
        by_cases hq : (c.toNat : Int) = 39
        · have e := fir_quo hy hL' hD' hq
          rw [e] at he hn ⊢
          rw [fir_quo hy' hL' hD' hq, quo_app h h' (by simp) he hn hs]
        · cases hx : sgnO s with
          | none => rw [fir_nos hy hL' hD' hq hx] at he; cases he
          | some x =>
            have e := fir_sgn hy hL' hD' hq hx
            rw [e] at hn ⊢
            rw [fir_sgn hy' hL' hD' hq (sgn_app h h' hx hn hs).1]
/-- What is known of a token that may be. -/
theorem rig_fir {y : Yl} (h : rigB y = true) : firT (wriT y) = ((y.k, y.t, y.n), (((wriT y).size : Int), 0)) ∧ ∃ c l, bs (wriT y) = c :: l ∧ isP (c.toNat : Int) = true ∧ ¬ (c.toNat : Int) = 32 := by
  unfold rigB at h
  simp only [Bool.and_eq_true] at h
  obtain ⟨⟨⟨⟨⟨⟨⟨h1, h2⟩, h3⟩, h4⟩, h5⟩, h6⟩, h7⟩, h8⟩ := h
  refine ⟨?_, ?_⟩
  · have e := of_decide_eq_true h4
    have e5 := of_decide_eq_true h5
    have e6 := of_decide_eq_true h6
    have e7 := bs_ext ((bsEq_t _ _).mp h7)
    have e8 := of_decide_eq_true h8
    rw [← e6, ← e7, ← e8, ← e5, ← e]
  · cases hb : bs (wriT y) with
    | nil => rw [hb] at h3; cases h3
    | cons c l =>
      rw [hb] at h3
      simp only [List.getElem?_cons_zero, Bool.and_eq_true] at h3
      exact ⟨c, l, rfl, h3.1, by simpa using h3.2⟩
theorem sgns_45 : ∀ z ∈ sgns, 2 ≤ z.size → (bs z)[0]? ≠ some 45 := by decide +kernel
theorem notB {c : UInt8} (h1 : isP (c.toNat : Int) = true) (h2 : ¬ (c.toNat : Int) = 32) : isS (c.toNat : Int) = false := by
  simp only [isP, isS, Bool.and_eq_true, decide_eq_true_eq, Bool.or_eq_false_iff, decide_eq_false_iff_not] at h1 ⊢
  omega
theorem blk_rig {y : Yl} (h : rigB y = true) {r : List UInt8} (hs : sepL r) : blk false (bs (wriT y) ++ r) = 0 := by
  obtain ⟨hf, c, l, hb, h1, h2⟩ := rig_fir h
  rw [hb, List.cons_append, blk, if_neg (by simp [notB h1 h2]), if_neg]
  rintro ⟨rfl, h4⟩
  have hy : (bs (wriT y))[0]? = some 45 := by rw [hb]; rfl
  cases l with
  | nil =>
    rcases hs with rfl | ⟨q, rfl⟩
    · cases h4
    · simp at h4
  | cons d l =>
    have hsz := bs_len (wriT y)
    rw [hb] at hsz
    simp at hsz
    cases hx : sgnO (wriT y) with
    | none => rw [fir_nos hy (by decide) (by decide) (by decide) hx] at hf; simp [badT] at hf
    | some x =>
      rw [fir_sgn hy (by decide) (by decide) (by decide) hx] at hf
      simp only [Prod.mk.injEq] at hf
      have hxs : x.size = (wriT y).size := by omega
      refine sgns_45 x (List.mem_of_find?_eq_some hx) (by omega) ?_
      have := (sgn_app (s' := wriT y) (p := bs (wriT y)) (r := []) (r' := []) (by simp) (by simp) hx (by rw [bs_len]; omega) (.inl rfl)).2
      rw [this]; exact hy
/-- Tokens' texts, a blank between them. -/
def jn (l : List Yl) : List UInt8 := Lib.join (l.map fun y => bs (wriT y)) [32]
theorem jn_0 : jn [] = [] := rfl
theorem jn_1 (y : Yl) : jn [y] = bs (wriT y) := Lib.join_one _ _
theorem jn_2 (y z : Yl) (l : List Yl) : jn (y :: z :: l) = bs (wriT y) ++ 32 :: jn (z :: l) := by
  simp [jn, Lib.join, List.intercalate, List.intersperse]
theorem jn_c (y : Yl) (l : List Yl) : ∃ r, jn (y :: l) = bs (wriT y) ++ r ∧ sepL r ∧ ((l = [] ∧ r = []) ∨ r = 32 :: jn l) := by
  cases l with
  | nil => exact ⟨[], by rw [jn_1]; simp, .inl rfl, .inl ⟨rfl, rfl⟩⟩
  | cons z l => exact ⟨_, jn_2 y z l, .inr ⟨_, rfl⟩, .inr rfl⟩
theorem blk_jn {l : List Yl} (h : ∀ y ∈ l, rigB y = true) : blk false (jn l) = 0 := by
  cases l with
  | nil => rfl
  | cons y l =>
    obtain ⟨r, e, hs, _⟩ := jn_c y l
    rw [e]
    exact blk_rig (h y (by simp)) hs
theorem toks_jn : ∀ (l : List Yl) (f : Nat) (s : ByteArray) (a : Nat), a ≤ s.size → (bs s).drop a = jn l → s.size < a + f → (∀ y ∈ l, rigB y = true) → smeL l (toksF f s a) = true ∧ ∀ y ∈ toksF f s a, y.e = 0
  | _, 0, s, a, h1, _, h3, _ => by omega
  | [], f + 1, s, a, h1, h2, h3, h4 => by
    have h5 := congrArg List.length h2
    rw [jn_0, List.length_drop, bs_len, List.length_nil] at h5
    rw [toksF, if_neg (by omega)]
    exact ⟨rfl, by simp⟩
  | y :: l, f + 1, s, a, h1, h2, h3, h4 => by
    have hy := h4 y (by simp)
    obtain ⟨r, e, hs, hr⟩ := jn_c y l
    obtain ⟨hf, c, l1, hb, _⟩ := rig_fir hy
    have hw := bs_len (wriT y)
    rw [hb, List.length_cons] at hw
    rw [e] at h2
    have h5 := congrArg List.length h2
    rw [List.length_drop, List.length_append, bs_len, bs_len] at h5
    have hF : firT (sufS s a) = ((y.k, y.t, y.n), (((wriT y).size : Int), 0)) := by
      rw [← hf]
      exact fir_app (s := wriT y) (p := bs (wriT y)) (r := []) (r' := r) (by simp) (by rw [bs_suf, h2]) (by rw [hf]) (by rw [hf, bs_len]) hs
    have hL : firL (sufS s a) = (wriT y).size := by unfold firL; rw [hF]; simp
    have he : (ytok s a).e = 0 := by show (firT (sufS s a)).2.2 = 0; rw [hF]
    have hd : (bs s).drop (a + (wriT y).size) = r := by
      rw [← List.drop_drop, h2, ← bs_len]; simp
    rw [toksF, if_pos (by omega), if_pos he]
    have hsm : smeB y (ytok s a) = true := by
      unfold smeB ytok
      rw [hF]
      simp [bsEq]
    have hN : nxt s a ≤ s.size ∧ (bs s).drop (nxt s a) = jn l := by
      unfold nxt
      rw [hL, bs_suf, hd]
      rcases hr with ⟨rfl, rfl⟩ | rfl
      · rw [jn_0]
        simp only [blk]
        exact ⟨by omega, by simpa using hd⟩
      · have hb : blk false (32 :: jn l) = 1 := by
          rw [blk, if_pos (by decide), blk_jn fun z hz => h4 z (by simp [hz])]
        rw [hb]
        have : (bs s).drop (a + (wriT y).size + 1) = jn l := by rw [← List.drop_drop, hd]; rfl
        refine ⟨?_, this⟩
        have h6 := congrArg List.length hd
        rw [List.length_drop, bs_len] at h6
        simp at h6; omega
    have hg := nxt_gt he
    obtain ⟨h7, h8⟩ := toks_jn l f s (nxt s a) hN.1 hN.2 (by omega) fun z hz => h4 z (by simp [hz])
    refine ⟨by simp [smeL, hsm, h7], fun z hz => ?_⟩
    rcases List.mem_cons.1 hz with rfl | hz
    · exact he
    · exact h8 z hz
theorem bs_txt (l : List Yl) : bs (txtS l) = jn l := by
  unfold txtS joinS jn bs
  simp [List.map_map, Function.comp_def, blS]
/-- The text of tokens leads back to them. -/
theorem lex_back {l : List Yl} (h : (prT l).2 = 0) : (lexT (prT l).1).2 = (0, 0) ∧ smeL l (lexT (prT l).1).1 = true := by
  by_cases hc : chkN l = 0
  · by_cases hl : 1024 < (txtS l).size
    · rw [prT_long hc hl] at h; cases h
    · rw [prT_ok hc hl]
      obtain ⟨h1, h2⟩ := chk_in hc
      have h2 := fun y hy => List.all_eq_true.1 h2 y hy
      have hb : blk false (bs (txtS l)) = 0 := by rw [bs_txt]; exact blk_jn h2
      obtain ⟨h3, h4⟩ := toks_jn l ((txtS l).size + 1) (txtS l) 0 (by omega) (by rw [List.drop_zero, bs_txt]) (by omega) h2
      have ht : toks (txtS l) = toksF ((txtS l).size + 1) (txtS l) 0 := by unfold toks; rw [hb]
      rw [← ht] at h3 h4
      have hle := smeL_len h3
      have hok := lexG_ok (l := toks (txtS l)) ⟨by omega, h4⟩
      rw [lexT_ok hl hok]
      exact ⟨rfl, h3⟩
  · rw [prT_no hc] at h; exact absurd h hc
end Go.Proofs.YtekpmlfcmnlmiaaDoor

namespace Go.Proofs.YtekpmlfcmnlmiaaDoor
open Go.RowKit
set_option linter.unusedVariables false
set_option linter.unusedSimpArgs false

theorem rig_mk {y : Yl} {c : UInt8} {l : List UInt8} (hb : bs (wriT y) = c :: l) (h1 : isP (c.toNat : Int) = true) (h2 : ¬ (c.toNat : Int) = 32) (h3 : y.k = 3 → bs y.t = []) (hf : firT (wriT y) = ((y.k, y.t, y.n), (((wriT y).size : Int), 0))) : rigB y = true := by
  have e1 : bsEq (wriT y) ⟨#[]⟩ = false := by rw [bsEq_f, hb]; simp [bs]
  have e2 : (decide (y.k = 3) && !bsEq y.t ⟨#[]⟩) = false := by
    by_cases hk : y.k = 3
    · have : bsEq y.t ⟨#[]⟩ = true := by rw [bsEq_t, h3 hk]; rfl
      rw [this]; simp
    · simp [hk]
  have e3 : (bs (wriT y))[0]? = some c := by rw [hb]; rfl
  have e4 : bsEq y.t y.t = true := by rw [bsEq_t]
  unfold rigB
  rw [e1, e2, e3, hf]
  simp [h1, h2, e4]
theorem rig_any (k : Int) (t : ByteArray) (n a z e : Int) : rigB ⟨k, t, n, a, z, e⟩ = rigB ⟨k, t, n, 0, 0, 0⟩ := by
  unfold rigB wriT
  rfl
theorem keys_rig : ∀ k ∈ keysL, rigB ⟨1, k, 0, 0, 0, 0⟩ = true := by
  have : (keysL.all fun k => rigB ⟨1, k, 0, 0, 0, 0⟩) = true := by kernel_rfl
  exact List.all_eq_true.1 this
theorem keyN_mem {w : ByteArray} (h : (keyN w).2 = true) : (keyN w).1 ∈ keysL := by
  unfold keyN at h ⊢
  split at h
  · rename_i hk
    rw [if_pos hk]
    unfold inK at hk
    obtain ⟨z, hz, he⟩ := List.any_eq_true.1 hk
    have := bs_ext ((bsEq_t _ _).mp he)
    show upS w ∈ keysL
    rw [this]; exact hz
  · cases h
theorem letP {c : UInt8} (h : isL (c.toNat : Int) = true) : isP (c.toNat : Int) = true ∧ ¬ (c.toNat : Int) = 32 := by
  simp only [isL, isP, Bool.or_eq_true, Bool.and_eq_true, decide_eq_true_eq] at h ⊢
  omega
theorem digP {c : UInt8} (h : isD (c.toNat : Int) = true) : isP (c.toNat : Int) = true ∧ ¬ (c.toNat : Int) = 32 ∧ isL (c.toNat : Int) = false := by
  simp only [isL, isD, isP, Bool.or_eq_true, Bool.and_eq_true, decide_eq_true_eq, Bool.or_eq_false_iff, Bool.and_eq_false_iff, decide_eq_false_iff_not] at h ⊢
  omega
theorem dec_dig : ∀ (u : Nat), ∀ c ∈ Lib.decDigits u, isD (c.toNat : Int) = true := by
  intro u
  induction u using Nat.strongRecOn with
  | _ u ih =>
    intro c hc
    rw [Lib.decDigits] at hc
    split at hc
    · simp only [List.mem_singleton] at hc
      subst hc
      simp only [isD, UInt8.toNat_ofNat', Bool.and_eq_true, decide_eq_true_eq]
      omega
    · rcases List.mem_append.1 hc with h | h
      · exact ih (u / 10) (by omega) c h
      · simp only [List.mem_singleton] at h
        subst h
        simp only [isD, UInt8.toNat_ofNat', Bool.and_eq_true, decide_eq_true_eq]
        omega
theorem dec_ne (u : Nat) : Lib.decDigits u ≠ [] := by
  rw [Lib.decDigits]
  split <;> simp
theorem parse_app : ∀ {l r : List UInt8} {M acc u : Nat}, Lib.parseUintM M acc l = .ok u → Lib.parseUintM M acc (l ++ r) = Lib.parseUintM M u r
  | [], r, M, acc, u, h => by simp only [Lib.parseUintM] at h; injection h with h; subst h; rfl
  | c :: l, r, M, acc, u, h => by
    rw [Lib.parseUintM] at h
    rw [List.cons_append, Lib.parseUintM]
    split at h
    · rename_i h1
      rw [if_pos h1]
      split at h
      · cases h
      · rename_i h2
        rw [if_neg h2]
        split at h
        · cases h
        · rename_i h3
          rw [if_neg h3]
          exact parse_app h
    · cases h
theorem parse_dec : ∀ (u : Nat), u ≤ 18446744073709551615 → Lib.parseUintM 18446744073709551615 0 (Lib.decDigits u) = .ok u := by
  intro u
  induction u using Nat.strongRecOn with
  | _ u ih =>
    intro hu
    rw [Lib.decDigits]
    split
    · have e : (UInt8.ofNat (48 + u)).toNat = 48 + u := by simp only [UInt8.toNat_ofNat']; omega
      rw [Lib.parseUintM, e, if_pos (by omega), if_neg (by omega), if_neg (by omega), Lib.parseUintM]
      congr 1; omega
    · rw [parse_app (ih (u / 10) (by omega) (by omega))]
      have e : (UInt8.ofNat (48 + u % 10)).toNat = 48 + u % 10 := by simp only [UInt8.toNat_ofNat']; omega
      rw [Lib.parseUintM, e, if_pos (by omega), if_neg (by omega), if_neg (by omega), Lib.parseUintM]
      congr 1; omega
theorem endN_whole {q : Int → Bool} : ∀ {l : List UInt8}, (∀ c ∈ l, q (c.toNat : Int) = true) → endN q l = l.length
  | [], _ => rfl
  | c :: l, h => by rw [endN_cons, if_pos (h c (by simp)), endN_whole fun x hx => h x (by simp [hx])]; simp
theorem bs_ito (u : Nat) : bs (itoS (u : Int)) = Lib.decDigits u := by
  show (Lib.itoa (u : Int)) = _
  unfold Lib.itoa
  rw [if_neg (by omega)]
  simp
theorem num_dec {u : Nat} (hu : u ≤ 9223372036854775807) : numT (itoS (u : Int)) = ((3, (u : Int)), (((itoS (u : Int)).size : Int), 0)) := by
  have hb := bs_ito u
  have he : endN isD (bs (itoS (u : Int))) = (itoS (u : Int)).size := by rw [hb, endN_whole (dec_dig u), ← hb, bs_len]
  have hd : bs (digS (itoS (u : Int))) = Lib.decDigits u := by
    rw [bs_digS, he, ← bs_len, List.take_length, hb]
  have hp : Lib.parseUintB 64 (bs (digS (itoS (u : Int)))) = .ok u := by
    rw [hd]
    unfold Lib.parseUintB
    rw [if_neg (dec_ne u)]
    exact parse_dec u (by omega)
  rw [num_ok hp hu (lv_end (by omega)), he]
/-- A quoted text is read back. -/
theorem ub (v : Int) (h : isP v = true) : ((UInt8.ofNat v.toNat).toNat : Int) = v := by
  simp only [isP, Bool.and_eq_true, decide_eq_true_eq] at h
  simp only [UInt8.toNat_ofNat']
  omega
theorem bs_nums (l : List Int) : bs (strOfNums l) = l.map fun n : Int => UInt8.ofNat n.toNat := by simp [bs, strOfNums]
theorem quoU_P : ∀ (l : List UInt8) (acc : List Int) (k : Nat) (r : List Int) (m : Nat), quoU l acc k = some (r, m) → (∀ v ∈ acc, isP v = true) → ∀ v ∈ r, isP v = true
  | [], acc, k, r, m, h, _ => by simp [quoU] at h
  | [c], acc, k, r, m, h, ha => by
    simp only [quoU] at h
    split at h
    · simp at h; obtain ⟨rfl, rfl⟩ := h; exact ha
    · cases h
  | c :: d :: l, acc, k, r, m, h, ha => by
    rw [quoU] at h
    split at h
    · rename_i h1
      split at h
      · split at h
        · exact quoU_P l _ _ _ _ h fun v hv => by
            rcases List.mem_append.1 hv with hv | hv
            · exact ha v hv
            · simp at hv; subst hv; decide
        · simp at h; obtain ⟨rfl, rfl⟩ := h; exact ha
      · exact quoU_P (d :: l) _ _ _ _ h fun v hv => by
          rcases List.mem_append.1 hv with hv | hv
          · exact ha v hv
          · simp at hv; subst hv; exact h1
    · cases h
theorem quoU_back : ∀ (l : List Int) (acc : List Int) (k : Nat), (∀ v ∈ l, isP v = true) → quoU ((l.flatMap quoI ++ [39]).map fun n : Int => UInt8.ofNat n.toNat) acc k = some (acc ++ l, k + (l.flatMap quoI).length + 1)
  | [], acc, k, _ => by
    show quoU [39] acc k = _
    rw [quoU, if_pos ⟨by decide, rfl⟩]; simp
  | v :: l, acc, k, h => by
    have hv := h v (by simp)
    have ih := quoU_back l (acc ++ [v]) (k + (quoI v).length) fun x hx => h x (by simp [hx])
    by_cases hq : v = 39
    · subst hq
      show quoU (39 :: 39 :: (l.flatMap quoI ++ [39]).map _) acc k = _
      rw [quoU, if_pos (by decide), if_pos rfl, if_pos rfl, show k + 2 = k + (quoI 39).length from rfl, ih]
      simp [List.flatMap_cons, quoI]; omega
    · have e : quoI v = [v] := by unfold quoI; rw [if_neg hq]
      rw [e] at ih
      have hne : ∃ d t, ((l.flatMap quoI ++ [39]).map fun n : Int => UInt8.ofNat n.toNat) = d :: t := by
        cases hh : ((l.flatMap quoI ++ [39]).map fun n : Int => UInt8.ofNat n.toNat) with
        | nil => simp at hh
        | cons d t => exact ⟨d, t, rfl⟩
      obtain ⟨d, t, hd⟩ := hne
      rw [List.flatMap_cons, e, List.singleton_append, List.cons_append, List.map_cons, hd, quoU, if_pos (by rw [ub v hv]; exact hv), if_neg, ← hd, ub v hv, show k + 1 = k + [v].length from rfl, ih]
      · simp; omega
      · intro h39
        apply hq
        rw [← ub v hv, h39]; rfl
theorem num_str {l : List Int} (h : ∀ v ∈ l, isP v = true) : numS (strOfNums l) = l := by
  unfold numS
  rw [bs_nums, List.map_map]
  refine (List.map_congr_left fun v hv => ?_).trans (List.map_id l)
  exact ub v (h v hv)
theorem quo_back {l : List Int} (h : ∀ v ∈ l, isP v = true) (hl : l.length ≤ 64) : quoT (quoS (strOfNums l)) = ((4, strOfNums l), (((quoS (strOfNums l)).size : Int), 0)) ∧ ∃ r, bs (quoS (strOfNums l)) = 39 :: r := by
  have e : bs (quoS (strOfNums l)) = 39 :: ((l.flatMap quoI ++ [39]).map fun n : Int => UInt8.ofNat n.toNat) := by
    unfold quoS
    rw [num_str h, bs_nums]
    unfold quoN
    rfl
  have hs := bs_len (quoS (strOfNums l))
  rw [e] at hs
  simp only [List.length_cons, List.length_map, List.length_append, List.length_nil] at hs
  have hq := quoU_back l [] 1 h
  refine ⟨?_, _, e⟩
  rw [quoT_b (l := l) (k := 1 + (l.flatMap quoI).length + 1) (by rw [e]; simpa using hq) hl]
  simp only [Prod.mk.injEq, and_true, true_and]
  omega
theorem sgns_P : ∀ z ∈ sgns, ∀ c ∈ bs z, isP (c.toNat : Int) = true ∧ ¬ (c.toNat : Int) = 32 := by decide +kernel
/-- A token that a text begins with may be a token. -/
theorem fir_rig {s : ByteArray} (he : (firT s).2.2 = 0) (a z e : Int) : rigB ⟨(firT s).1.1, (firT s).1.2.1, (firT s).1.2.2, a, z, e⟩ = true := by
  obtain ⟨m, h1, h2, h3⟩ := fir_len he
  have hl := bs_len s
  have hsplit : bs s = (bs s).take m ++ (bs s).drop m := (List.take_append_drop _ _).symm
  have hpl : ((bs s).take m).length = m := by rw [List.length_take]; omega
  cases hb : bs s with
  | nil => rw [hb] at hl; simp at hl; omega
  | cons c l =>
    have hy : (bs s)[0]? = some c := by rw [hb]; rfl
    have hw0 : ∀ w : ByteArray, bs w = (bs s).take m → (∃ t, bs w = c :: t) ∧ firT w = firT s ∧ w.size = m := fun w hw => by
      refine ⟨?_, fir_app (p := (bs s).take m) (r := (bs s).drop m) (r' := []) hsplit (by rw [hw]; simp) he (by rw [hpl]; exact h1) (.inl rfl), by rw [← bs_len, hw, hpl]⟩
      rw [hw, hb]
      obtain ⟨k, rfl⟩ : ∃ k, m = k + 1 := ⟨m - 1, by omega⟩
      exact ⟨_, rfl⟩
    by_cases hL : isL (c.toNat : Int) = true
    · by_cases hk : (keyN (wrdS s)).2 = true
      · rw [fir_key hy hL hk, rig_any]
        exact keys_rig _ (keyN_mem hk)
      · by_cases hm : nameB (wrdS s) = true
        · have e0 := fir_name hy hL (by simpa using hk) hm
          have hn : endN isW (bs s) = m := by rw [e0] at h1; exact Int.ofNat.inj h1
          obtain ⟨⟨t, ht⟩, hf, hsz⟩ := hw0 (wrdS s) (by rw [bs_wrdS, hn])
          rw [e0] at hf ⊢
          have hw : ∀ y : Yl, y.k = 2 → wriT y = y.t := fun y h => wri_o (by omega) (by omega)
          refine rig_mk (c := c) (l := t) (by rw [hw _ rfl]; exact ht) (letP hL).1 (letP hL).2 (by intro h; cases h) ?_
          rw [hw _ rfl]
          show firT (wrdS s) = _
          rw [hf, hn, hsz]
        · rw [fir_no hy hL (by simpa using hk) (by simpa using hm)] at he; cases he
    · have hL' : isL (c.toNat : Int) = false := by simpa using hL
      by_cases hD : isD (c.toNat : Int) = true
      · have e0 := fir_num hy hL' hD
        rw [e0] at he ⊢
        have hnum : ∃ u : Nat, u ≤ 9223372036854775807 ∧ (numT s).1 = (3, (u : Int)) := by
          unfold numT at he ⊢
          split at he
          · rename_i u hu
            split at he
            · rename_i hc
              rw [if_pos hc]
              exact ⟨u, hc.1, rfl⟩
            · cases he
          · cases he
        obtain ⟨u, hu, hn⟩ := hnum
        rw [hn]
        have hw : wriT ⟨3, ⟨#[]⟩, (u : Int), a, z, e⟩ = itoS (u : Int) := wri_3 rfl
        have hdd := bs_ito u
        cases hdc : Lib.decDigits u with
        | nil => exact absurd hdc (dec_ne u)
        | cons d t =>
          have hd1 := dec_dig u d (by rw [hdc]; simp)
          rw [hdc] at hdd
          have hp := digP hd1
          refine rig_mk (c := d) (l := t) (by rw [hw]; exact hdd) hp.1 hp.2.1 (fun _ => rfl) ?_
          rw [hw, fir_num (y := d) (by rw [hdd]; rfl) hp.2.2 hd1, num_dec hu]
      · have hD' : isD (c.toNat : Int) = false := by simpa using hD
        by_cases hq : (c.toNat : Int) = 39
        · have e0 := fir_quo hy hL' hD' hq
          rw [e0] at he ⊢
          have hqq : ∃ l, (∀ v ∈ l, isP v = true) ∧ l.length ≤ 64 ∧ (quoT s).1 = (4, strOfNums l) := by
            unfold quoT at he ⊢
            split at he
            · rename_i l k hh
              split at he
              · rename_i hl
                rw [if_pos hl]
                exact ⟨l, quoU_P _ _ _ _ _ hh (by simp), hl, rfl⟩
              · cases he
            · cases he
          obtain ⟨l, hP, hl, hn⟩ := hqq
          rw [hn]
          have hw : wriT ⟨4, strOfNums l, 0, a, z, e⟩ = quoS (strOfNums l) := wri_4 rfl
          obtain ⟨hb1, r, hb2⟩ := quo_back hP hl
          refine rig_mk (c := 39) (l := r) (by rw [hw]; exact hb2) (by decide) (by decide) (by intro h; cases h) ?_
          rw [hw, fir_quo (y := 39) (by rw [hb2]; rfl) (by decide) (by decide) (by decide), hb1]
        · cases hx : sgnO s with
          | none => rw [fir_nos hy hL' hD' hq hx] at he; cases he
          | some x =>
            have e0 := fir_sgn hy hL' hD' hq hx
            have hn : x.size = m := by rw [e0] at h1; exact Int.ofNat.inj h1
            have hbx := sgn_bs hx
            rw [hn] at hbx
            obtain ⟨⟨t, ht⟩, hf, hsz⟩ := hw0 x hbx
            have hc := sgns_P x (List.mem_of_find?_eq_some hx) c (by rw [ht]; simp)
            rw [e0] at hf ⊢
            have hw : ∀ y : Yl, y.k = 5 → wriT y = y.t := fun y h => wri_o (by omega) (by omega)
            refine rig_mk (c := c) (l := t) (by rw [hw _ rfl]; exact ht) hc.1 hc.2 (by intro h; cases h) ?_
            rw [hw _ rfl]
            exact hf
theorem fir_in {s : ByteArray} (hs : s.size ≤ 100000) (a z e : Int) : TokIn ⟨(firT s).1.1, (firT s).1.2.1, (firT s).1.2.2, a, z, e⟩ := by
  have hnum : (-9223372036854775808 ≤ (firT s).1.2.2 ∧ (firT s).1.2.2 ≤ 9223372036854775807) ∧ (firT s).1.2.1.size ≤ 100000 := by
    have z0 : (⟨#[]⟩ : ByteArray).size = 0 := rfl
    unfold firT
    split
    · simp [badT, z0]
    · rename_i c l hb
      split
      · have hk : ∀ k ∈ keysL, k.size ≤ 100000 := by decide +kernel
        split
        · rename_i h1
          exact ⟨by simp, hk _ (keyN_mem h1)⟩
        · split
          · refine ⟨by simp, ?_⟩
            have h1 := bs_len (wrdS s)
            have h2 := bs_len s
            rw [bs_wrdS, List.length_take] at h1
            show (wrdS s).size ≤ _
            omega
          · simp [badT, z0]
      · split
        · refine ⟨?_, by simp [z0]⟩
          unfold numT
          split
          · split
            · rename_i u hu hc
              show (-9223372036854775808 : Int) ≤ (u : Int) ∧ (u : Int) ≤ 9223372036854775807
              omega
            · simp
          · simp
        · split
          · refine ⟨by simp, ?_⟩
            unfold quoT
            split
            · split
              · rename_i l k hh hl
                have : (strOfNums l).size = l.length := by simp [strOfNums, ByteArray.size]
                show (strOfNums l).size ≤ _
                omega
              · simp [z0]
            · simp [z0]
          · split
            · rename_i x hx
              have hk : ∀ k ∈ sgns, k.size ≤ 100000 := by decide +kernel
              exact ⟨by simp, hk x (List.mem_of_find?_eq_some hx)⟩
            · simp [badT, z0]
  exact hnum
theorem toksF_mem : ∀ (f : Nat) (s : ByteArray) (a : Nat) (y : Yl), y ∈ toksF f s a → ∃ b, b < s.size ∧ y = ytok s b
  | 0, s, a, y, h => by simp [toksF] at h
  | f + 1, s, a, y, h => by
    rw [toksF] at h
    split at h
    · rename_i ha
      split at h
      · rcases List.mem_cons.1 h with rfl | h
        · exact ⟨a, ha, rfl⟩
        · exact toksF_mem f s _ y h
      · simp at h; exact ⟨a, ha, h⟩
    · simp at h
theorem lexG_some : ∀ (l : List Yl) (m : Nat) (p : Int × Int), lexG m l = some p → p.1 ≠ 0 ∧ ∃ y ∈ l, p.2 = y.a
  | [], m, p, h => by simp [lexG] at h
  | y :: l, m, p, h => by
    rw [lexG] at h
    split at h
    · injection h with h; subst h; exact ⟨by simp, y, by simp, rfl⟩
    · split at h
      · rename_i he
        injection h with h; subst h; exact ⟨he, y, by simp, rfl⟩
      · obtain ⟨h1, z, h2, h3⟩ := lexG_some l _ p h
        exact ⟨h1, z, by simp [h2], h3⟩
theorem lexG_none : ∀ (l : List Yl) (m : Nat), m ≤ 300 → lexG m l = none → m + l.length ≤ 300 ∧ ∀ y ∈ l, y.e = 0
  | [], m, hm, h => by simp; exact hm
  | y :: l, m, hm, h => by
    rw [lexG] at h
    split at h
    · cases h
    · split at h
      · cases h
      · rename_i h1 h2
        obtain ⟨h3, h4⟩ := lexG_none l (m + 1) (by omega) h
        refine ⟨by simp; omega, fun z hz => ?_⟩
        rcases List.mem_cons.1 hz with rfl | hz
        · simpa using h2
        · exact h4 z hz
/-- Where a text has no tokens. -/
theorem lex_no {s : ByteArray} (h : ¬ ((lexT s).2.1 = 0 ∧ (lexT s).2.2 = 0)) : (lexT s).1 = [] ∧ (lexT s).2.1 ≠ 0 ∧ 0 ≤ (lexT s).2.2 ∧ (lexT s).2.2 ≤ (s.size : Int) := by
  by_cases hl : 1024 < s.size
  · rw [lexT_long hl]; simp
  · cases hg : lexG 0 (toks s) with
    | none => rw [lexT_ok hl hg] at h; simp at h
    | some p =>
      rw [lexT_err hl hg]
      obtain ⟨h1, y, h2, h3⟩ := lexG_some _ _ _ hg
      obtain ⟨b, hb, rfl⟩ := toksF_mem _ _ _ _ h2
      refine ⟨rfl, h1, ?_⟩
      rw [h3]
      show (0 : Int) ≤ (b : Int) ∧ (b : Int) ≤ _
      omega
/-- A text's tokens. -/
theorem lex_ok {s : ByteArray} (h : (lexT s).2.1 = 0) : s.size ≤ 1024 ∧ (lexT s).1 = toks s ∧ (toks s).length ≤ 300 ∧ (∀ y ∈ toks s, y.e = 0) ∧ (lexT s).2.2 = 0 := by
  by_cases hl : 1024 < s.size
  · rw [lexT_long hl] at h; cases h
  · cases hg : lexG 0 (toks s) with
    | none =>
      rw [lexT_ok hl hg]
      obtain ⟨h1, h2⟩ := lexG_none _ 0 (by omega) hg
      exact ⟨by omega, rfl, by omega, h2, rfl⟩
    | some p =>
      rw [lexT_err hl hg] at h
      exact absurd h (lexG_some _ _ _ hg).1
theorem lex_chk {s : ByteArray} (h : (lexT s).2.1 = 0) : chkN (lexT s).1 = 0 := by
  obtain ⟨h1, h2, h3, h4, _⟩ := lex_ok h
  rw [h2]
  refine chkN_ok (by omega) (List.all_eq_true.2 fun y hy => ?_)
  have he := h4 y hy
  obtain ⟨b, hb, rfl⟩ := toksF_mem _ _ _ _ hy
  exact fir_rig he _ _ _
theorem lex_in (s : ByteArray) : TokInL (lexT s).1 := fun y hy => by
  by_cases h : (lexT s).2.1 = 0
  · obtain ⟨h1, h2, h3, h4, _⟩ := lex_ok h
    rw [h2] at hy
    obtain ⟨b, hb, rfl⟩ := toksF_mem _ _ _ _ hy
    exact fir_in (by rw [sufS_size (by omega)]; omega) _ _ _
  · rw [(lex_no fun hh => h hh.1).1] at hy; simp at hy
theorem lex_len (s : ByteArray) : (lexT s).1.length ≤ 300 := by
  by_cases h : (lexT s).2.1 = 0
  · obtain ⟨h1, h2, h3, h4, _⟩ := lex_ok h
    rw [h2]; exact h3
  · rw [(lex_no fun hh => h hh.1).1]; simp
/-! Where tokens stand. -/
theorem blk_take : ∀ (b : Bool) (l : List UInt8), blk b (l.take (blk b l)) = blk b l
  | false, [] => rfl
  | true, [] => rfl
  | false, c :: l => by
    have i1 := blk_take false l
    have i2 := blk_take true l
    rw [blk]
    split
    · rename_i h
      rw [Nat.add_comm 1, List.take_succ_cons, blk, if_pos h, i1]; omega
    · rename_i h
      split
      · rename_i h2
        rw [Nat.add_comm 1, List.take_succ_cons, blk, if_neg h, if_pos, i2]; · omega
        refine ⟨h2.1, ?_⟩
        cases l with
        | nil => simp at h2
        | cons d l =>
          have : 1 ≤ blk true (d :: l) := by rw [blk]; split <;> omega
          obtain ⟨k, hk⟩ : ∃ k, blk true (d :: l) = k + 1 := ⟨blk true (d :: l) - 1, by omega⟩
          rw [hk, List.take_succ_cons]; simpa using h2.2
      · rfl
  | true, c :: l => by
    have i1 := blk_take false l
    have i2 := blk_take true l
    rw [blk]
    split
    · rename_i h
      rw [Nat.add_comm 1, List.take_succ_cons, blk, if_pos h, i1]; omega
    · rename_i h
      rw [Nat.add_comm 1, List.take_succ_cons, blk, if_neg h, i2]; omega
theorem blk_drop : ∀ (b : Bool) (l : List UInt8), blk false (l.drop (blk b l)) = 0
  | false, [] => rfl
  | true, [] => rfl
  | false, c :: l => by
    have i1 := blk_drop false l
    have i2 := blk_drop true l
    rw [blk]
    split
    · rw [Nat.add_comm 1, List.drop_succ_cons]; exact i1
    · rename_i h
      split
      · rw [Nat.add_comm 1, List.drop_succ_cons]; exact i2
      · rename_i h2
        rw [List.drop_zero, blk, if_neg h, if_neg h2]
  | true, c :: l => by
    have i1 := blk_drop false l
    have i2 := blk_drop true l
    rw [blk]
    split
    · rw [Nat.add_comm 1, List.drop_succ_cons]; exact i1
    · rw [Nat.add_comm 1, List.drop_succ_cons]; exact i2
theorem blk_cut {p r : List UInt8} (h : blk false (p ++ r) = 0) : blk false p = 0 := by
  cases p with
  | nil => rfl
  | cons c p =>
    rw [List.cons_append, blk] at h
    rw [blk]
    split at h
    · omega
    · rename_i h1
      rw [if_neg h1]
      split at h
      · omega
      · rename_i h2
        rw [if_neg]
        rintro ⟨h3, h4⟩
        refine h2 ⟨h3, ?_⟩
        cases p with
        | nil => simp at h4
        | cons d p => simpa using h4
/-- Blanks alone have no tokens. -/
theorem lex_blank {x : ByteArray} (h : blk false (bs x) = (bs x).length) (hx : x.size ≤ 1024) : lexT x = ([], (0, 0)) := by
  have e : toks x = [] := by
    unfold toks
    rw [h, bs_len, toksF, if_neg (by omega)]
  rw [lexT_ok (by omega) (by rw [e]; rfl), e]
/-- A token by itself. -/
theorem lex_one {x s : ByteArray} {a : Nat} (hx : bs x = (bs (sufS s a)).take (firL (sufS s a))) (hb : blk false ((bs s).drop a) = 0) (he : (ytok s a).e = 0) (hs : s.size ≤ 1024) (ha : a ≤ s.size) : ∃ y, lexT x = ([y], (0, 0)) ∧ smeB y (ytok s a) = true := by
  have hle := firL_le (sufS s a)
  have hsl := bs_len (sufS s a)
  rw [sufS_size ha] at hle hsl
  have hxl : x.size = firL (sufS s a) := by rw [← bs_len, hx, List.length_take]; omega
  have hpos := firL_pos (s := sufS s a) he
  have hsplit : bs (sufS s a) = bs x ++ (bs (sufS s a)).drop (firL (sufS s a)) := by rw [hx, List.take_append_drop]
  have hf : firT x = firT (sufS s a) := fir_app (p := bs x) (r' := []) hsplit (by simp) he (by rw [firL_eq, bs_len, hxl]) (.inl rfl)
  have hb0 : blk false (bs x) = 0 := by
    rw [bs_suf] at hsplit
    exact blk_cut (r := (bs (sufS s a)).drop (firL (sufS s a))) (by rw [bs_suf, ← hsplit]; exact hb)
  have hs0 : sufS x 0 = x := bs_ext (by rw [bs_suf, List.drop_zero])
  have hy : (ytok x 0).e = 0 := by show (firT (sufS x 0)).2.2 = 0; rw [hs0, hf]; exact he
  have hL : firL (sufS x 0) = x.size := by rw [hs0, hxl]; unfold firL; rw [hf]
  have hN : nxt x 0 = x.size := by
    have h1 := nxt_le (s := x) (a := 0) (by omega)
    unfold nxt at h1 ⊢
    omega
  have ht : toks x = [ytok x 0] := by
    unfold toks
    rw [hb0, toksF, if_pos (by omega), if_pos hy, hN]
    obtain ⟨k, hk⟩ : ∃ k, x.size = k + 1 := ⟨x.size - 1, by omega⟩
    conv => lhs; rw [hk]; 
    rw [toksF, if_neg (by omega)]
  refine ⟨ytok x 0, ?_, ?_⟩
  · rw [lexT_ok (by omega) (by rw [ht]; exact lexG_ok ⟨by simp, by simpa using hy⟩), ht]
  · unfold smeB ytok
    rw [hs0, hf]
    simp [bsEq]
/-- Tokens stand one behind the other. -/
def plcs (s : ByteArray) : Nat → List Yl → Prop
  | e, [] => e ≤ s.size ∧ lexT (s.extract e s.size) = ([], (0, 0))
  | e, y :: l => ∃ a z : Nat, y.a = (a : Int) ∧ y.z = (z : Int) ∧ e ≤ a ∧ a < z ∧ z ≤ s.size ∧ lexT (s.extract e a) = ([], (0, 0)) ∧ (∃ x, lexT (s.extract a z) = ([x], (0, 0)) ∧ smeB x y = true) ∧ plcs s z l
theorem plc_F : ∀ (f : Nat) (s : ByteArray) (e : Nat), e ≤ s.size → s.size ≤ 1024 → s.size < e + blk false ((bs s).drop e) + f → (∀ y ∈ toksF f s (e + blk false ((bs s).drop e)), y.e = 0) → plcs s e (toksF f s (e + blk false ((bs s).drop e)))
  | 0, s, e, h1, h2, h3, _ => by
    have := blk_le false ((bs s).drop e)
    rw [List.length_drop, bs_len] at this
    omega
  | f + 1, s, e, h1, h2, h3, h4 => by
    have hle := blk_le false ((bs s).drop e)
    rw [List.length_drop, bs_len] at hle
    rw [toksF] at h4 ⊢
    by_cases ha : e + blk false ((bs s).drop e) < s.size
    · rw [if_pos ha] at h4 ⊢
      have he : (ytok s (e + blk false ((bs s).drop e))).e = 0 := by
        split at h4
        · assumption
        · exact h4 _ (by simp)
      rw [if_pos he] at h4 ⊢
      have hfl := firL_le (sufS s (e + blk false ((bs s).drop e)))
      rw [sufS_size (by omega)] at hfl
      have hfp := firL_pos (s := sufS s (e + blk false ((bs s).drop e))) he
      have hN : nxt s (e + blk false ((bs s).drop e)) = (e + blk false ((bs s).drop e) + firL (sufS s (e + blk false ((bs s).drop e)))) + blk false ((bs s).drop (e + blk false ((bs s).drop e) + firL (sufS s (e + blk false ((bs s).drop e))))) := by
        unfold nxt
        rw [bs_suf]
      rw [hN] at h4 ⊢
      refine ⟨e + blk false ((bs s).drop e), e + blk false ((bs s).drop e) + firL (sufS s (e + blk false ((bs s).drop e))), rfl, ?_, by omega, by omega, by omega, ?_, ?_, ?_⟩
      · show ((e + blk false ((bs s).drop e) : Nat) : Int) + (firT (sufS s (e + blk false ((bs s).drop e)))).2.1 = _
        rw [firL_eq]; simp
      · refine lex_blank ?_ (by simp; omega)
        rw [bs_extr, Nat.add_sub_cancel_left, blk_take, List.length_take, List.length_drop, bs_len]
        omega
      · refine lex_one ?_ ?_ he h2 (by omega)
        · rw [bs_extr, bs_suf, Nat.add_sub_cancel_left]
        · rw [← List.drop_drop]; exact blk_drop false _
      · exact plc_F f s _ (by omega) h2 (by omega) fun y hy => h4 y (by simp [hy])
    · rw [if_neg ha]
      refine ⟨h1, lex_blank ?_ (by simp; omega)⟩
      rw [bs_drop, List.length_drop, bs_len]
      omega
theorem lex_plc {s : ByteArray} (h : (lexT s).2.1 = 0) : plcs s 0 (lexT s).1 := by
  obtain ⟨h1, h2, h3, h4, _⟩ := lex_ok h
  rw [h2]
  have hb := blk_le false (bs s)
  rw [bs_len] at hb
  have := plc_F (s.size + 1) s 0 (by omega) h1 (by rw [List.drop_zero]; omega)
  rw [Nat.zero_add, List.drop_zero] at this
  exact this h4
end Go.Proofs.YtekpmlfcmnlmiaaDoor
