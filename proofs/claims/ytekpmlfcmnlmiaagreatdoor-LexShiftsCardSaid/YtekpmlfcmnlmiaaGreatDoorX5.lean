/- Numbers, signs, and the token that a text begins with. Condition: what the package-level variables hold. -/
import Derived.Test.YtekpmlfcmnlmiaaGreatDoorX4
import Derived.Test.YtekpmlfcmnlmiaaGreatDoorJE
namespace Go.Proofs.YtekpmlfcmnlmiaaGreatDoor
open Go.RowKit
set_option linter.unusedVariables false
set_option linter.unusedSimpArgs false
set_option maxRecDepth 20000
/-- Does a letter stand behind so many bytes? -/
def lvB (s : ByteArray) (n : Nat) : Bool := match (bs s)[n]? with
  | some c => isL (c.toNat : Int)
  | none => false
/-- The digits that a text begins with. -/
def digS (s : ByteArray) : ByteArray := s.extract 0 (endN isD (bs s))
/-- The token of a number: kind and number, how long, why not. -/
def numT (s : ByteArray) : (Int × Int) × (Int × Int) := match Lib.parseUintB 64 (bs (digS s)) with
  | .ok u => if u ≤ 9223372036854775807 ∧ lvB s (endN isD (bs s)) = false then ((3, (u : Int)), ((endN isD (bs s) : Int), 0)) else ((0, 0), (0, 201))
  | _ => ((0, 0), (0, 201))
theorem parseM_ns : ∀ (l : List UInt8) (M acc : Nat), (∀ c ∈ l, isD (c.toNat : Int) = true) → Lib.parseUintM M acc l = .range ∨ ∃ u, Lib.parseUintM M acc l = .ok u
  | [], M, acc, _ => .inr ⟨acc, by simp [Lib.parseUintM]⟩
  | c :: l, M, acc, hd => by
    have hc := hd c (by simp)
    simp only [isD, Bool.and_eq_true, decide_eq_true_eq] at hc
    rw [Lib.parseUintM, if_pos (by omega)]
    split
    · exact .inl rfl
    · split
      · exact .inl rfl
      · exact parseM_ns l M _ (fun x hx => hd x (by simp [hx]))
theorem bs_digS (s : ByteArray) : bs (digS s) = (bs s).take (endN isD (bs s)) := by
  unfold digS
  rw [bs_extr]
  simp
theorem takeN_p {p : Int → Bool} : ∀ (l : List UInt8), ∀ c ∈ l.take (endN p l), p (c.toNat : Int) = true
  | [], c, h => by simp at h
  | a :: l, c, h => by
    rw [endN_cons] at h
    by_cases hp : p (a.toNat : Int) = true
    · rw [if_pos hp, List.take_succ_cons] at h
      rcases List.mem_cons.1 h with rfl | h
      · exact hp
      · exact takeN_p l c h
    · rw [if_neg hp] at h; simp at h
theorem dig_ns (s : ByteArray) {y : UInt8} (hy : (bs s)[0]? = some y) (hd : isD (y.toNat : Int) = true) : Lib.parseUintB 64 (bs (digS s)) = .range ∨ ∃ u, Lib.parseUintB 64 (bs (digS s)) = .ok u := by
  rw [bs_digS]
  have hne : (bs s).take (endN isD (bs s)) ≠ [] := by
    cases hb : bs s with
    | nil => rw [hb] at hy; simp at hy
    | cons a l =>
      rw [hb] at hy
      simp at hy
      subst hy
      rw [endN_cons, if_pos hd]; simp
  unfold Lib.parseUintB
  rw [if_neg hne]
  exact parseM_ns _ _ _ (takeN_p _)
theorem digS_size (s : ByteArray) : (digS s).size = endN isD (bs s) := by
  have h1 := bs_len (digS s)
  have h2 := endN_le isD (bs s)
  rw [bs_digS, List.length_take] at h1
  omega
theorem num_ok {s : ByteArray} {u : Nat} (h : Lib.parseUintB 64 (bs (digS s)) = .ok u) (hu : u ≤ 9223372036854775807) (hl : lvB s (endN isD (bs s)) = false) : numT s = ((3, (u : Int)), ((endN isD (bs s) : Int), 0)) := by
  unfold numT; rw [h]; simp [hu, hl]
theorem num_big {s : ByteArray} {u : Nat} (h : Lib.parseUintB 64 (bs (digS s)) = .ok u) (hu : ¬ u ≤ 9223372036854775807) : numT s = ((0, 0), (0, 201)) := by
  unfold numT; rw [h]; simp [hu]
theorem num_let {s : ByteArray} {u : Nat} (h : Lib.parseUintB 64 (bs (digS s)) = .ok u) (hl : lvB s (endN isD (bs s)) = true) : numT s = ((0, 0), (0, 201)) := by
  unfold numT; rw [h]; simp [hl]
theorem num_range {s : ByteArray} (h : Lib.parseUintB 64 (bs (digS s)) = .range) : numT s = ((0, 0), (0, 201)) := by
  unfold numT; rw [h]
theorem lv_at {s : ByteArray} {k : Nat} {y : UInt8} (hy : (bs s)[k]? = some y) : lvB s k = isL (y.toNat : Int) := by unfold lvB; rw [hy]
theorem lv_end {s : ByteArray} {k : Nat} (hk : s.size ≤ k) : lvB s k = false := by unfold lvB; rw [List.getElem?_eq_none (by rw [bs_len]; exact hk)]
theorem parse_lt {l : List UInt8} : ∀ {M acc u : Nat}, acc < 18446744073709551616 → M < 18446744073709551616 → Lib.parseUintM M acc l = .ok u → u < 18446744073709551616 := by
  induction l with
  | nil => intro M acc u ha hM h; simp only [Lib.parseUintM] at h; injection h with h; omega
  | cons c l ih =>
    intro M acc u ha hM h
    rw [Lib.parseUintM] at h
    split at h
    · split at h
      · cases h
      · split at h
        · cases h
        · exact ih (by omega) hM h
    · cases h
theorem parseB_lt {l : List UInt8} {u : Nat} (h : Lib.parseUintB 64 l = .ok u) : u < 18446744073709551616 := by
  unfold Lib.parseUintB at h
  split at h
  · cases h
  · exact parse_lt (by omega) (by omega) h
set_option maxRecDepth 20000 in
theorem number_X (s : ByteArray) (hs : s.size ≤ 140737488355328) (y : UInt8) (hy : (bs s)[0]? = some y) (hd : isD (y.toNat : Int) = true) : XMeets Tryz.prog 61 [.v (.string s)] (.tu [.ag [.p (.v (.int .i64 ((numT s).1.1))) (nlv _), .p (.v (.string (⟨#[]⟩))) (nlv _), .p (.v (.int .i64 ((numT s).1.2))) (nlv _), .p (.v (.int .i64 (0))) (nlv _), .p (.v (.int .i64 (0))) (nlv _)], .p (.v (.int .i64 ((numT s).2.1))) (nlv _), .p (.v (.int .i64 ((numT s).2.2))) (nlv _)]) := by
  refine XMeets.of_X tabX_ok (avs := [.p (.v (.string s)) (nlv _)]) [(0, .p (.v (.string s)) (nlv _))] (by kernel_rfl) Tryz.func61 rfl (by simp [PuL, Pu]) (rfl) rfl rfl ?_
  intro B w0
  have hsl := bs_len s
  have hel := endN_sz isD s
  have hds := digS_size s
  have hns := dig_ns s hy hd
  rcases hns with hp | ⟨u, hp⟩
  · skip
    conv => whnf
    refine .ct ?_
    conv => whnf
    refine CallG.mk (endD_X _ (by first | assumption | omega)) rfl ?_
    conv => whnf
    refine ⟨_, rfl, ?_⟩
    conv => whnf
    refine ⟨by omega, ?_⟩
    conv => whnf
    refine ⟨by assumption, ?_⟩
    conv => whnf
    refine .wr (WCall.ex (parse_range (digS s) (by omega) hp) rfl ?_); rintro ⟨te, pe⟩ -
    conv => whnf
    refine BinG.mk rfl rfl (bin_held (by kernel_rfl)) ?_
    conv => whnf
    refine FinG.mk none ?_ (by rintro _ ⟨⟩)
    simp only [outs, List.length_map, List.length_append, List.length_take, List.length_drop, List.length_cons, List.length_nil]
    rw [num_range hp]
    simp
  · skip
    have hu := parseB_lt hp
    conv => whnf
    refine .ct ?_
    conv => whnf
    refine CallG.mk (endD_X _ (by first | assumption | omega)) rfl ?_
    conv => whnf
    refine ⟨_, rfl, ?_⟩
    conv => whnf
    refine ⟨by omega, ?_⟩
    conv => whnf
    refine ⟨by assumption, ?_⟩
    conv => whnf
    refine .ct ?_
    conv => whnf
    refine CallG.mk (parse_ok (digS s) (by omega) u hp) rfl ?_
    conv => whnf
    refine BinG.mk rfl rfl (bin_nil (by kernel_rfl)) ?_
    conv => whnf
    refine bS (fun hc1 => ?_) (fun hc1 => ?_)
    · skip
      try simp only [bls] at hc1
      conv => whnf
      refine bT (decide_eq_true (by omega)) ?_
      conv => whnf
      refine bT (decide_eq_true (by omega)) ?_
      conv => whnf
      refine bT (decide_eq_true (by omega)) ?_
      conv => whnf
      refine bT (decide_eq_true (by omega)) ?_
      conv => whnf
      refine bT (decide_eq_true (by omega)) ?_
      conv => whnf
      refine bT (decide_eq_true (by omega)) ?_
      conv => whnf
      refine FinG.mk none ?_ (by rintro _ ⟨⟩)
      simp only [outs, List.length_map, List.length_append, List.length_take, List.length_drop, List.length_cons, List.length_nil]
      rw [num_big hp (by omega)]
      simp
    · skip
      try simp only [bls] at hc1
      conv => whnf
      refine bF (decide_eq_false (by omega)) ?_
      conv => whnf
      refine bF (decide_eq_false (by omega)) ?_
      conv => whnf
      refine bF (decide_eq_false (by omega)) ?_
      conv => whnf
      refine bF (decide_eq_false (by omega)) ?_
      conv => whnf
      refine bS (fun hc2 => ?_) (fun hc2 => ?_)
      · skip
        try simp only [bls] at hc2
        conv => whnf
        refine bT (decide_eq_true (by omega)) ?_
        conv => whnf
        refine bT (decide_eq_true (by omega)) ?_
        conv => whnf
        refine str_ex (endN isD (bs s)) (by omega) (by omega) ?_; intro z hz hz0 hz1
        conv => whnf
        refine bT (decide_eq_true (by omega)) ?_
        conv => whnf
        refine .ct ?_
        conv => whnf
        refine CallG.mk (letter_X _ (by omega) (by omega)) rfl ?_
        conv => whnf
        refine bF (decide_eq_false (by omega)) ?_
        conv => whnf
        refine bT (decide_eq_true (by omega)) ?_
        conv => whnf
        refine bF (decide_eq_false (by omega)) ?_
        conv => whnf
        refine bS (fun hc3 => ?_) (fun hc3 => ?_)
        · skip
          try simp only [bls] at hc3
          conv => whnf
          refine FinG.mk none ?_ (by rintro _ ⟨⟩)
          simp only [outs, List.length_map, List.length_append, List.length_take, List.length_drop, List.length_cons, List.length_nil]
          rw [num_let hp (by rw [lv_at hz]; assumption)]
          simp
        · skip
          try simp only [bls] at hc3
          conv => whnf
          refine FinG.mk none ?_ (by rintro _ ⟨⟩)
          simp only [outs, List.length_map, List.length_append, List.length_take, List.length_drop, List.length_cons, List.length_nil]
          rw [num_ok hp (by omega) (by rw [lv_at hz]; assumption), wz.1 _ (by omega) (by omega)]
          simp
      · skip
        try simp only [bls] at hc2
        conv => whnf
        refine bF (decide_eq_false (by omega)) ?_
        conv => whnf
        refine bF (decide_eq_false (by omega)) ?_
        conv => whnf
        refine bF (decide_eq_false (by omega)) ?_
        conv => whnf
        refine bF (decide_eq_false (by omega)) ?_
        conv => whnf
        refine bF (decide_eq_false (by omega)) ?_
        conv => whnf
        refine bF (decide_eq_false (by omega)) ?_
        conv => whnf
        refine FinG.mk none ?_ (by rintro _ ⟨⟩)
        simp only [outs, List.length_map, List.length_append, List.length_take, List.length_drop, List.length_cons, List.length_nil]
        rw [num_ok hp (by omega) (lv_end (by omega)), wz.1 _ (by omega) (by omega)]
        simp
/-- The signs, the longer ones first. -/
def sgns : List ByteArray := [⟨#[60, 61]⟩, ⟨#[62, 61]⟩, ⟨#[60, 62]⟩, ⟨#[40]⟩, ⟨#[41]⟩, ⟨#[44]⟩, ⟨#[59]⟩, ⟨#[61]⟩, ⟨#[60]⟩, ⟨#[62]⟩, ⟨#[43]⟩, ⟨#[45]⟩, ⟨#[42]⟩, ⟨#[47]⟩, ⟨#[37]⟩, ⟨#[46]⟩]
/-- The sign that a text begins with. -/
def sgnO (s : ByteArray) : Option ByteArray := sgns.find? fun x => Lib.hasPrefix (bs s) (bs x)
/-- No token. -/
def badT : (Int × ByteArray × Int) × (Int × Int) := ((0, ⟨#[]⟩, 0), (0, 200))
/-- The word that a text begins with. -/
def wrdS (s : ByteArray) : ByteArray := s.extract 0 (endN isW (bs s))
/-- The token that a text begins with: kind, text and number, how long, why not. -/
def firT (s : ByteArray) : (Int × ByteArray × Int) × (Int × Int) := match bs s with
  | [] => badT
  | c :: _ => if isL (c.toNat : Int) = true then (if (keyN (wrdS s)).2 = true then ((1, (keyN (wrdS s)).1, 0), ((endN isW (bs s) : Int), 0)) else if nameB (wrdS s) = true then ((2, wrdS s, 0), ((endN isW (bs s) : Int), 0)) else badT)
    else if isD (c.toNat : Int) = true then (((numT s).1.1, ⟨#[]⟩, (numT s).1.2), (numT s).2)
    else if c = 39 then (((quoT s).1.1, (quoT s).1.2, 0), (quoT s).2)
    else match sgnO s with
      | some x => ((5, x, 0), ((x.size : Int), 0))
      | none => badT
theorem bs_0 {s : ByteArray} {y : UInt8} (hy : (bs s)[0]? = some y) : ∃ l, bs s = y :: l := by
  cases h : bs s with
  | nil => rw [h] at hy; simp at hy
  | cons a l => rw [h] at hy; simp at hy; subst hy; exact ⟨l, rfl⟩
theorem fir_key {s : ByteArray} {y : UInt8} (hy : (bs s)[0]? = some y) (h : isL (y.toNat : Int) = true) (hk : (keyN (wrdS s)).2 = true) : firT s = ((1, (keyN (wrdS s)).1, 0), ((endN isW (bs s) : Int), 0)) := by
  obtain ⟨l, hl⟩ := bs_0 hy
  unfold firT; rw [hl]; simp only [h, hk, if_true]
theorem fir_name {s : ByteArray} {y : UInt8} (hy : (bs s)[0]? = some y) (h : isL (y.toNat : Int) = true) (hk : (keyN (wrdS s)).2 = false) (hn : nameB (wrdS s) = true) : firT s = ((2, wrdS s, 0), ((endN isW (bs s) : Int), 0)) := by
  obtain ⟨l, hl⟩ := bs_0 hy
  unfold firT; rw [hl]; simp [h, hk, hn]
theorem fir_no {s : ByteArray} {y : UInt8} (hy : (bs s)[0]? = some y) (h : isL (y.toNat : Int) = true) (hk : (keyN (wrdS s)).2 = false) (hn : nameB (wrdS s) = false) : firT s = badT := by
  obtain ⟨l, hl⟩ := bs_0 hy
  unfold firT; rw [hl]; simp [h, hk, hn]
theorem fir_num {s : ByteArray} {y : UInt8} (hy : (bs s)[0]? = some y) (h : isL (y.toNat : Int) = false) (hd : isD (y.toNat : Int) = true) : firT s = (((numT s).1.1, ⟨#[]⟩, (numT s).1.2), (numT s).2) := by
  obtain ⟨l, hl⟩ := bs_0 hy
  unfold firT; rw [hl]; simp [h, hd]
theorem by_39 {y : UInt8} (h : (y.toNat : Int) = 39) : y = 39 := UInt8.toNat_inj.1 (show y.toNat = 39 by omega)
theorem by_n39 {y : UInt8} (h : ¬ (y.toNat : Int) = 39) : ¬ y = 39 := fun e => h (by rw [e]; rfl)
theorem fir_quo {s : ByteArray} {y : UInt8} (hy : (bs s)[0]? = some y) (h : isL (y.toNat : Int) = false) (hd : isD (y.toNat : Int) = false) (hq : (y.toNat : Int) = 39) : firT s = (((quoT s).1.1, (quoT s).1.2, 0), (quoT s).2) := by
  obtain ⟨l, hl⟩ := bs_0 hy
  unfold firT; rw [hl]; show (if isL (y.toNat : Int) = true then _ else _) = _; rw [if_neg (by simp [h]), if_neg (by simp [hd]), if_pos (by_39 hq)]
theorem fir_sgn {s : ByteArray} {y : UInt8} (hy : (bs s)[0]? = some y) (h : isL (y.toNat : Int) = false) (hd : isD (y.toNat : Int) = false) (hq : ¬ (y.toNat : Int) = 39) {x : ByteArray} (hs : sgnO s = some x) : firT s = ((5, x, 0), ((x.size : Int), 0)) := by
  obtain ⟨l, hl⟩ := bs_0 hy
  unfold firT; rw [hl]; simp [h, hd, by_n39 hq, hs]
theorem fir_nos {s : ByteArray} {y : UInt8} (hy : (bs s)[0]? = some y) (h : isL (y.toNat : Int) = false) (hd : isD (y.toNat : Int) = false) (hq : ¬ (y.toNat : Int) = 39) (hs : sgnO s = none) : firT s = badT := by
  obtain ⟨l, hl⟩ := bs_0 hy
  unfold firT; rw [hl]; simp [h, hd, by_n39 hq, hs]
/-- No sign among the first so many. -/
def noP (s : ByteArray) (k : Nat) : Prop := ∀ x ∈ sgns.take k, Lib.hasPrefix (bs s) (bs x) = false
theorem noP_0 (s : ByteArray) : noP s 0 := fun x hx => by simp at hx
theorem noP_s {s : ByteArray} {k : Nat} {x : ByteArray} (h : noP s k) (hx : sgns[k]? = some x) (hp : Lib.hasPrefix (bs s) (bs x) = false) : noP s (k + 1) := fun z hz => by
  rw [List.take_add_one, hx] at hz
  rcases List.mem_append.1 hz with hz | hz
  · exact h z hz
  · simp at hz; subst hz; exact hp
theorem sgn_none {s : ByteArray} (h : noP s 16) : sgnO s = none := List.find?_eq_none.2 fun x hx => by simp [h x (by rw [List.take_of_length_le (by decide)]; exact hx)]
theorem sgn_some {s : ByteArray} {k : Nat} {x : ByteArray} (h : noP s k) (hx : sgns[k]? = some x) (hp : Lib.hasPrefix (bs s) (bs x) = true) : sgnO s = some x := by
  obtain ⟨hk, rfl⟩ := List.getElem?_eq_some_iff.1 hx
  unfold sgnO
  rw [List.find?_eq_some_iff_append]
  refine ⟨hp, sgns.take k, sgns.drop (k + 1), ?_, fun z hz => by simp [h z hz]⟩
  rw [← List.drop_eq_getElem_cons hk, List.take_append_drop]
set_option maxRecDepth 20000 in
theorem signs_X  : XMeets Tryz.prog 63 [] (.ag [.p (.v (.string (⟨#[60, 61]⟩))) (nlv _), .p (.v (.string (⟨#[62, 61]⟩))) (nlv _), .p (.v (.string (⟨#[60, 62]⟩))) (nlv _), .p (.v (.string (⟨#[40]⟩))) (nlv _), .p (.v (.string (⟨#[41]⟩))) (nlv _), .p (.v (.string (⟨#[44]⟩))) (nlv _), .p (.v (.string (⟨#[59]⟩))) (nlv _), .p (.v (.string (⟨#[61]⟩))) (nlv _), .p (.v (.string (⟨#[60]⟩))) (nlv _), .p (.v (.string (⟨#[62]⟩))) (nlv _), .p (.v (.string (⟨#[43]⟩))) (nlv _), .p (.v (.string (⟨#[45]⟩))) (nlv _), .p (.v (.string (⟨#[42]⟩))) (nlv _), .p (.v (.string (⟨#[47]⟩))) (nlv _), .p (.v (.string (⟨#[37]⟩))) (nlv _), .p (.v (.string (⟨#[46]⟩))) (nlv _)]) := by
  refine XMeets.of_X tabX_ok (avs := []) [] (by kernel_rfl) Tryz.func63 rfl (by simp [PuL, Pu]) (rfl) rfl rfl ?_
  intro B w0
  conv => whnf
  refine FinG.mk none ?_ (by rintro _ ⟨⟩)
  simp only [outs, List.length_map, List.length_append, List.length_take, List.length_drop, List.length_cons, List.length_nil]
set_option maxHeartbeats 4000000 in
set_option maxRecDepth 20000 in
theorem first_X (s : ByteArray) (hs : s.size ≤ 140737488355328) (h0 : 1 ≤ s.size) : XMeets Tryz.prog 43 [.v (.string s)] (.tu [.ag [.p (.v (.int .i64 ((firT s).1.1))) (nlv _), .p (.v (.string ((firT s).1.2.1))) (nlv _), .p (.v (.int .i64 ((firT s).1.2.2))) (nlv _), .p (.v (.int .i64 (0))) (nlv _), .p (.v (.int .i64 (0))) (nlv _)], .p (.v (.int .i64 ((firT s).2.1))) (nlv _), .p (.v (.int .i64 ((firT s).2.2))) (nlv _)]) := by
  refine XMeets.of_X tabX_ok (avs := [.p (.v (.string s)) (nlv _)]) [(0, .p (.v (.string s)) (nlv _))] (by kernel_rfl) Tryz.func43 rfl (by simp [PuL, Pu]) (rfl) rfl rfl ?_
  intro B w0
  have hsl := bs_len s
  have hel := endN_sz isW s
  conv => whnf
  refine str_ex 0 rfl (by omega) ?_; intro y hy hy0 hy1
  conv => whnf
  refine .ct ?_
  conv => whnf
  refine CallG.mk (letter_X _ (by omega) (by omega)) rfl ?_
  conv => whnf
  refine bS (fun hc1 => ?_) (fun hc1 => ?_)
  · skip
    try simp only [bls] at hc1
    conv => whnf
    refine .ct ?_
    conv => whnf
    refine CallG.mk (endW_X _ (by first | assumption | omega)) rfl ?_
    conv => whnf
    refine ⟨_, rfl, ?_⟩
    conv => whnf
    refine ⟨by omega, ?_⟩
    conv => whnf
    refine ⟨by assumption, ?_⟩
    conv => whnf
    refine .ct ?_
    conv => whnf
    refine CallG.mk (key_X (wrdS s) (by unfold wrdS; simp; omega)) rfl ?_
    conv => whnf
    refine bS (fun hc2 => ?_) (fun hc2 => ?_)
    · skip
      try simp only [bls] at hc2
      conv => whnf
      refine FinG.mk none ?_ (by rintro _ ⟨⟩)
      simp only [outs, List.length_map, List.length_append, List.length_take, List.length_drop, List.length_cons, List.length_nil]
      rw [fir_key hy (by assumption) (by assumption)]
      simp
    · skip
      try simp only [bls] at hc2
      conv => whnf
      refine ⟨_, rfl, ?_⟩
      conv => whnf
      refine ⟨by omega, ?_⟩
      conv => whnf
      refine ⟨by assumption, ?_⟩
      conv => whnf
      refine .ct ?_
      conv => whnf
      refine CallG.mk (name_X (wrdS s) (by unfold wrdS; simp; omega)) rfl ?_
      conv => whnf
      refine bS (fun hc3 => ?_) (fun hc3 => ?_)
      · skip
        try simp only [bls] at hc3
        conv => whnf
        refine ⟨_, rfl, ?_⟩
        conv => whnf
        refine ⟨by omega, ?_⟩
        conv => whnf
        refine ⟨by assumption, ?_⟩
        conv => whnf
        refine FinG.mk none ?_ (by rintro _ ⟨⟩)
        simp only [outs, List.length_map, List.length_append, List.length_take, List.length_drop, List.length_cons, List.length_nil]
        rw [fir_name hy (by assumption) (by assumption) (by assumption)]
        simp [wrdS]
      · skip
        try simp only [bls] at hc3
        conv => whnf
        refine FinG.mk none ?_ (by rintro _ ⟨⟩)
        simp only [outs, List.length_map, List.length_append, List.length_take, List.length_drop, List.length_cons, List.length_nil]
        rw [fir_no hy (by assumption) (by assumption) (by assumption)]
        simp [badT]
  · skip
    try simp only [bls] at hc1
    conv => whnf
    refine .ct ?_
    conv => whnf
    refine CallG.mk (digit_X _) rfl ?_
    conv => whnf
    refine bS (fun hc4 => ?_) (fun hc4 => ?_)
    · skip
      try simp only [bls] at hc4
      conv => whnf
      refine .ct ?_
      conv => whnf
      refine CallG.mk (number_X _ (by first | assumption | omega) _ (by first | assumption | omega) (by assumption)) rfl ?_
      conv => whnf
      refine FinG.mk none ?_ (by rintro _ ⟨⟩)
      simp only [outs, List.length_map, List.length_append, List.length_take, List.length_drop, List.length_cons, List.length_nil]
      rw [fir_num hy (by assumption) (by assumption)]
      simp
    · skip
      try simp only [bls] at hc4
      conv => whnf
      refine bS (fun hc5 => ?_) (fun hc5 => ?_)
      · skip
        try simp only [bls] at hc5
        conv => whnf
        refine .ct ?_
        conv => whnf
        refine CallG.mk (quoted_X _ (by omega) h0) rfl ?_
        conv => whnf
        refine FinG.mk none ?_ (by rintro _ ⟨⟩)
        simp only [outs, List.length_map, List.length_append, List.length_take, List.length_drop, List.length_cons, List.length_nil]
        rw [fir_quo hy (by assumption) (by assumption) (by assumption)]
        simp
      · skip
        try simp only [bls] at hc5
        conv => whnf
        refine .ct ?_
        conv => whnf
        refine CallG.mk (signs_X) rfl ?_
        conv => whnf
        refine XT.loop tabX_ok (Y := Nat) [3, 4, 10, 14, 15, 16, 17, 18, 19, 20, 21, 22, 23, 24] (fun k => [(14, .p (.v (.int .i64 ((k : Int)))) (nlv _))]) (fun k => []) (fun k => k ≤ 16 ∧ noP s k) (fun k => 16 - k) 0 ⟨by omega, noP_0 s⟩ ?_ ?_
        · skip
          refine ⟨?_, ?_, ?_⟩
          · skip
            refine leEnv_app (by kernel_rfl) (by kernel_rfl) ?_
            repeat ((conv => whnf); first | exact True.intro | refine ⟨.rfl, ?_⟩ | refine ⟨.any, ?_⟩ | refine ⟨.nil, ?_⟩ | refine ⟨.int (by first | rfl | omega | (simp only [wrs]; omega)), ?_⟩)
          · skip
            repeat (first | exact LeVs.nil | ((conv => whnf); first | exact True.intro | exact .none | exact .row rfl | refine .cells ?_ | refine ⟨_, _, rfl, .rfl, ?_⟩ | refine ⟨_, _, rfl, .any, ?_⟩ | refine ⟨_, _, rfl, .nil, ?_⟩ | refine ⟨_, _, rfl, .int (by first | rfl | omega | (simp only [wrs]; omega)), ?_⟩ | refine ⟨?_, ?_⟩))
            done
          · skip
            exact LeFr.nil
        · skip
          rintro k ⟨hk, hn⟩
          rcases (by omega : k = 0 ∨ k = 1 ∨ k = 2 ∨ k = 3 ∨ k = 4 ∨ k = 5 ∨ k = 6 ∨ k = 7 ∨ k = 8 ∨ k = 9 ∨ k = 10 ∨ k = 11 ∨ k = 12 ∨ k = 13 ∨ k = 14 ∨ k = 15 ∨ k = 16) with rfl | rfl | rfl | rfl | rfl | rfl | rfl | rfl | rfl | rfl | rfl | rfl | rfl | rfl | rfl | rfl | rfl
          · skip
            conv => whnf
            refine ⟨_, rfl, ?_⟩
            conv => whnf
            refine ⟨by simp only [bls]; omega, ?_⟩
            conv => whnf
            refine .ct ?_
            conv => whnf
            refine CallG.mk (prefix_X _ _) rfl ?_
            conv => whnf
            refine bS (fun hc6 => ?_) (fun hc6 => ?_)
            · skip
              try simp only [bls] at hc6
              conv => whnf
              refine FinG.mk none ?_ (by rintro _ ⟨⟩)
              simp only [outs, List.length_map, List.length_append, List.length_take, List.length_drop, List.length_cons, List.length_nil]
              rw [fir_sgn hy (by assumption) (by assumption) (by assumption) (sgn_some hn rfl (by assumption))]
              simp
            · skip
              try simp only [bls] at hc6
              conv => whnf
              refine ⟨(1), ⟨by omega, noP_s hn rfl (by assumption)⟩, (by omega), ?_⟩
              refine ⟨?_, ?_, ?_⟩
              · skip
                refine leEnv_app (by kernel_rfl) (by kernel_rfl) ?_
                repeat ((conv => whnf); first | exact True.intro | refine ⟨.rfl, ?_⟩ | refine ⟨.any, ?_⟩ | refine ⟨.nil, ?_⟩ | refine ⟨.int (by first | rfl | omega | (simp only [wrs]; omega)), ?_⟩)
              · skip
                repeat (first | exact LeVs.nil | ((conv => whnf); first | exact True.intro | exact .none | exact .row rfl | refine .cells ?_ | refine ⟨_, _, rfl, .rfl, ?_⟩ | refine ⟨_, _, rfl, .any, ?_⟩ | refine ⟨_, _, rfl, .nil, ?_⟩ | refine ⟨_, _, rfl, .int (by first | rfl | omega | (simp only [wrs]; omega)), ?_⟩ | refine ⟨?_, ?_⟩))
                done
              · skip
                exact LeFr.nil
          · skip
            conv => whnf
            refine ⟨_, rfl, ?_⟩
            conv => whnf
            refine ⟨by simp only [bls]; omega, ?_⟩
            conv => whnf
            refine .ct ?_
            conv => whnf
            refine CallG.mk (prefix_X _ _) rfl ?_
            conv => whnf
            refine bS (fun hc7 => ?_) (fun hc7 => ?_)
            · skip
              try simp only [bls] at hc7
              conv => whnf
              refine FinG.mk none ?_ (by rintro _ ⟨⟩)
              simp only [outs, List.length_map, List.length_append, List.length_take, List.length_drop, List.length_cons, List.length_nil]
              rw [fir_sgn hy (by assumption) (by assumption) (by assumption) (sgn_some hn rfl (by assumption))]
              simp
            · skip
              try simp only [bls] at hc7
              conv => whnf
              refine ⟨(2), ⟨by omega, noP_s hn rfl (by assumption)⟩, (by omega), ?_⟩
              refine ⟨?_, ?_, ?_⟩
              · skip
                refine leEnv_app (by kernel_rfl) (by kernel_rfl) ?_
                repeat ((conv => whnf); first | exact True.intro | refine ⟨.rfl, ?_⟩ | refine ⟨.any, ?_⟩ | refine ⟨.nil, ?_⟩ | refine ⟨.int (by first | rfl | omega | (simp only [wrs]; omega)), ?_⟩)
              · skip
                repeat (first | exact LeVs.nil | ((conv => whnf); first | exact True.intro | exact .none | exact .row rfl | refine .cells ?_ | refine ⟨_, _, rfl, .rfl, ?_⟩ | refine ⟨_, _, rfl, .any, ?_⟩ | refine ⟨_, _, rfl, .nil, ?_⟩ | refine ⟨_, _, rfl, .int (by first | rfl | omega | (simp only [wrs]; omega)), ?_⟩ | refine ⟨?_, ?_⟩))
                done
              · skip
                exact LeFr.nil
          · skip
            conv => whnf
            refine ⟨_, rfl, ?_⟩
            conv => whnf
            refine ⟨by simp only [bls]; omega, ?_⟩
            conv => whnf
            refine .ct ?_
            conv => whnf
            refine CallG.mk (prefix_X _ _) rfl ?_
            conv => whnf
            refine bS (fun hc8 => ?_) (fun hc8 => ?_)
            · skip
              try simp only [bls] at hc8
              conv => whnf
              refine FinG.mk none ?_ (by rintro _ ⟨⟩)
              simp only [outs, List.length_map, List.length_append, List.length_take, List.length_drop, List.length_cons, List.length_nil]
              rw [fir_sgn hy (by assumption) (by assumption) (by assumption) (sgn_some hn rfl (by assumption))]
              simp
            · skip
              try simp only [bls] at hc8
              conv => whnf
              refine ⟨(3), ⟨by omega, noP_s hn rfl (by assumption)⟩, (by omega), ?_⟩
              refine ⟨?_, ?_, ?_⟩
              · skip
                refine leEnv_app (by kernel_rfl) (by kernel_rfl) ?_
                repeat ((conv => whnf); first | exact True.intro | refine ⟨.rfl, ?_⟩ | refine ⟨.any, ?_⟩ | refine ⟨.nil, ?_⟩ | refine ⟨.int (by first | rfl | omega | (simp only [wrs]; omega)), ?_⟩)
              · skip
                repeat (first | exact LeVs.nil | ((conv => whnf); first | exact True.intro | exact .none | exact .row rfl | refine .cells ?_ | refine ⟨_, _, rfl, .rfl, ?_⟩ | refine ⟨_, _, rfl, .any, ?_⟩ | refine ⟨_, _, rfl, .nil, ?_⟩ | refine ⟨_, _, rfl, .int (by first | rfl | omega | (simp only [wrs]; omega)), ?_⟩ | refine ⟨?_, ?_⟩))
                done
              · skip
                exact LeFr.nil
          · skip
            conv => whnf
            refine ⟨_, rfl, ?_⟩
            conv => whnf
            refine ⟨by simp only [bls]; omega, ?_⟩
            conv => whnf
            refine .ct ?_
            conv => whnf
            refine CallG.mk (prefix_X _ _) rfl ?_
            conv => whnf
            refine bS (fun hc9 => ?_) (fun hc9 => ?_)
            · skip
              try simp only [bls] at hc9
              conv => whnf
              refine FinG.mk none ?_ (by rintro _ ⟨⟩)
              simp only [outs, List.length_map, List.length_append, List.length_take, List.length_drop, List.length_cons, List.length_nil]
              rw [fir_sgn hy (by assumption) (by assumption) (by assumption) (sgn_some hn rfl (by assumption))]
              simp
            · skip
              try simp only [bls] at hc9
              conv => whnf
              refine ⟨(4), ⟨by omega, noP_s hn rfl (by assumption)⟩, (by omega), ?_⟩
              refine ⟨?_, ?_, ?_⟩
              · skip
                refine leEnv_app (by kernel_rfl) (by kernel_rfl) ?_
                repeat ((conv => whnf); first | exact True.intro | refine ⟨.rfl, ?_⟩ | refine ⟨.any, ?_⟩ | refine ⟨.nil, ?_⟩ | refine ⟨.int (by first | rfl | omega | (simp only [wrs]; omega)), ?_⟩)
              · skip
                repeat (first | exact LeVs.nil | ((conv => whnf); first | exact True.intro | exact .none | exact .row rfl | refine .cells ?_ | refine ⟨_, _, rfl, .rfl, ?_⟩ | refine ⟨_, _, rfl, .any, ?_⟩ | refine ⟨_, _, rfl, .nil, ?_⟩ | refine ⟨_, _, rfl, .int (by first | rfl | omega | (simp only [wrs]; omega)), ?_⟩ | refine ⟨?_, ?_⟩))
                done
              · skip
                exact LeFr.nil
          · skip
            conv => whnf
            refine ⟨_, rfl, ?_⟩
            conv => whnf
            refine ⟨by simp only [bls]; omega, ?_⟩
            conv => whnf
            refine .ct ?_
            conv => whnf
            refine CallG.mk (prefix_X _ _) rfl ?_
            conv => whnf
            refine bS (fun hc10 => ?_) (fun hc10 => ?_)
            · skip
              try simp only [bls] at hc10
              conv => whnf
              refine FinG.mk none ?_ (by rintro _ ⟨⟩)
              simp only [outs, List.length_map, List.length_append, List.length_take, List.length_drop, List.length_cons, List.length_nil]
              rw [fir_sgn hy (by assumption) (by assumption) (by assumption) (sgn_some hn rfl (by assumption))]
              simp
            · skip
              try simp only [bls] at hc10
              conv => whnf
              refine ⟨(5), ⟨by omega, noP_s hn rfl (by assumption)⟩, (by omega), ?_⟩
              refine ⟨?_, ?_, ?_⟩
              · skip
                refine leEnv_app (by kernel_rfl) (by kernel_rfl) ?_
                repeat ((conv => whnf); first | exact True.intro | refine ⟨.rfl, ?_⟩ | refine ⟨.any, ?_⟩ | refine ⟨.nil, ?_⟩ | refine ⟨.int (by first | rfl | omega | (simp only [wrs]; omega)), ?_⟩)
              · skip
                repeat (first | exact LeVs.nil | ((conv => whnf); first | exact True.intro | exact .none | exact .row rfl | refine .cells ?_ | refine ⟨_, _, rfl, .rfl, ?_⟩ | refine ⟨_, _, rfl, .any, ?_⟩ | refine ⟨_, _, rfl, .nil, ?_⟩ | refine ⟨_, _, rfl, .int (by first | rfl | omega | (simp only [wrs]; omega)), ?_⟩ | refine ⟨?_, ?_⟩))
                done
              · skip
                exact LeFr.nil
          · skip
            conv => whnf
            refine ⟨_, rfl, ?_⟩
            conv => whnf
            refine ⟨by simp only [bls]; omega, ?_⟩
            conv => whnf
            refine .ct ?_
            conv => whnf
            refine CallG.mk (prefix_X _ _) rfl ?_
            conv => whnf
            refine bS (fun hc11 => ?_) (fun hc11 => ?_)
            · skip
              try simp only [bls] at hc11
              conv => whnf
              refine FinG.mk none ?_ (by rintro _ ⟨⟩)
              simp only [outs, List.length_map, List.length_append, List.length_take, List.length_drop, List.length_cons, List.length_nil]
              rw [fir_sgn hy (by assumption) (by assumption) (by assumption) (sgn_some hn rfl (by assumption))]
              simp
            · skip
              try simp only [bls] at hc11
              conv => whnf
              refine ⟨(6), ⟨by omega, noP_s hn rfl (by assumption)⟩, (by omega), ?_⟩
              refine ⟨?_, ?_, ?_⟩
              · skip
                refine leEnv_app (by kernel_rfl) (by kernel_rfl) ?_
                repeat ((conv => whnf); first | exact True.intro | refine ⟨.rfl, ?_⟩ | refine ⟨.any, ?_⟩ | refine ⟨.nil, ?_⟩ | refine ⟨.int (by first | rfl | omega | (simp only [wrs]; omega)), ?_⟩)
              · skip
                repeat (first | exact LeVs.nil | ((conv => whnf); first | exact True.intro | exact .none | exact .row rfl | refine .cells ?_ | refine ⟨_, _, rfl, .rfl, ?_⟩ | refine ⟨_, _, rfl, .any, ?_⟩ | refine ⟨_, _, rfl, .nil, ?_⟩ | refine ⟨_, _, rfl, .int (by first | rfl | omega | (simp only [wrs]; omega)), ?_⟩ | refine ⟨?_, ?_⟩))
                done
              · skip
                exact LeFr.nil
          · skip
            conv => whnf
            refine ⟨_, rfl, ?_⟩
            conv => whnf
            refine ⟨by simp only [bls]; omega, ?_⟩
            conv => whnf
            refine .ct ?_
            conv => whnf
            refine CallG.mk (prefix_X _ _) rfl ?_
            conv => whnf
            refine bS (fun hc12 => ?_) (fun hc12 => ?_)
            · skip
              try simp only [bls] at hc12
              conv => whnf
              refine FinG.mk none ?_ (by rintro _ ⟨⟩)
              simp only [outs, List.length_map, List.length_append, List.length_take, List.length_drop, List.length_cons, List.length_nil]
              rw [fir_sgn hy (by assumption) (by assumption) (by assumption) (sgn_some hn rfl (by assumption))]
              simp
            · skip
              try simp only [bls] at hc12
              conv => whnf
              refine ⟨(7), ⟨by omega, noP_s hn rfl (by assumption)⟩, (by omega), ?_⟩
              refine ⟨?_, ?_, ?_⟩
              · skip
                refine leEnv_app (by kernel_rfl) (by kernel_rfl) ?_
                repeat ((conv => whnf); first | exact True.intro | refine ⟨.rfl, ?_⟩ | refine ⟨.any, ?_⟩ | refine ⟨.nil, ?_⟩ | refine ⟨.int (by first | rfl | omega | (simp only [wrs]; omega)), ?_⟩)
              · skip
                repeat (first | exact LeVs.nil | ((conv => whnf); first | exact True.intro | exact .none | exact .row rfl | refine .cells ?_ | refine ⟨_, _, rfl, .rfl, ?_⟩ | refine ⟨_, _, rfl, .any, ?_⟩ | refine ⟨_, _, rfl, .nil, ?_⟩ | refine ⟨_, _, rfl, .int (by first | rfl | omega | (simp only [wrs]; omega)), ?_⟩ | refine ⟨?_, ?_⟩))
                done
              · skip
                exact LeFr.nil
          · skip
            conv => whnf
            refine ⟨_, rfl, ?_⟩
            conv => whnf
            refine ⟨by simp only [bls]; omega, ?_⟩
            conv => whnf
            refine .ct ?_
            conv => whnf
            refine CallG.mk (prefix_X _ _) rfl ?_
            conv => whnf
            refine bS (fun hc13 => ?_) (fun hc13 => ?_)
            · skip
              try simp only [bls] at hc13
              conv => whnf
              refine FinG.mk none ?_ (by rintro _ ⟨⟩)
              simp only [outs, List.length_map, List.length_append, List.length_take, List.length_drop, List.length_cons, List.length_nil]
              rw [fir_sgn hy (by assumption) (by assumption) (by assumption) (sgn_some hn rfl (by assumption))]
              simp
            · skip
              try simp only [bls] at hc13
              conv => whnf
              refine ⟨(8), ⟨by omega, noP_s hn rfl (by assumption)⟩, (by omega), ?_⟩
              refine ⟨?_, ?_, ?_⟩
              · skip
                refine leEnv_app (by kernel_rfl) (by kernel_rfl) ?_
                repeat ((conv => whnf); first | exact True.intro | refine ⟨.rfl, ?_⟩ | refine ⟨.any, ?_⟩ | refine ⟨.nil, ?_⟩ | refine ⟨.int (by first | rfl | omega | (simp only [wrs]; omega)), ?_⟩)
              · skip
                repeat (first | exact LeVs.nil | ((conv => whnf); first | exact True.intro | exact .none | exact .row rfl | refine .cells ?_ | refine ⟨_, _, rfl, .rfl, ?_⟩ | refine ⟨_, _, rfl, .any, ?_⟩ | refine ⟨_, _, rfl, .nil, ?_⟩ | refine ⟨_, _, rfl, .int (by first | rfl | omega | (simp only [wrs]; omega)), ?_⟩ | refine ⟨?_, ?_⟩))
                done
              · skip
                exact LeFr.nil
          · skip
            conv => whnf
            refine ⟨_, rfl, ?_⟩
            conv => whnf
            refine ⟨by simp only [bls]; omega, ?_⟩
            conv => whnf
            refine .ct ?_
            conv => whnf
            refine CallG.mk (prefix_X _ _) rfl ?_
            conv => whnf
            refine bS (fun hc14 => ?_) (fun hc14 => ?_)
            · skip
              try simp only [bls] at hc14
              conv => whnf
              refine FinG.mk none ?_ (by rintro _ ⟨⟩)
              simp only [outs, List.length_map, List.length_append, List.length_take, List.length_drop, List.length_cons, List.length_nil]
              rw [fir_sgn hy (by assumption) (by assumption) (by assumption) (sgn_some hn rfl (by assumption))]
              simp
            · skip
              try simp only [bls] at hc14
              conv => whnf
              refine ⟨(9), ⟨by omega, noP_s hn rfl (by assumption)⟩, (by omega), ?_⟩
              refine ⟨?_, ?_, ?_⟩
              · skip
                refine leEnv_app (by kernel_rfl) (by kernel_rfl) ?_
                repeat ((conv => whnf); first | exact True.intro | refine ⟨.rfl, ?_⟩ | refine ⟨.any, ?_⟩ | refine ⟨.nil, ?_⟩ | refine ⟨.int (by first | rfl | omega | (simp only [wrs]; omega)), ?_⟩)
              · skip
                repeat (first | exact LeVs.nil | ((conv => whnf); first | exact True.intro | exact .none | exact .row rfl | refine .cells ?_ | refine ⟨_, _, rfl, .rfl, ?_⟩ | refine ⟨_, _, rfl, .any, ?_⟩ | refine ⟨_, _, rfl, .nil, ?_⟩ | refine ⟨_, _, rfl, .int (by first | rfl | omega | (simp only [wrs]; omega)), ?_⟩ | refine ⟨?_, ?_⟩))
                done
              · skip
                exact LeFr.nil
          · skip
            conv => whnf
            refine ⟨_, rfl, ?_⟩
            conv => whnf
            refine ⟨by simp only [bls]; omega, ?_⟩
            conv => whnf
            refine .ct ?_
            conv => whnf
            refine CallG.mk (prefix_X _ _) rfl ?_
            conv => whnf
            refine bS (fun hc15 => ?_) (fun hc15 => ?_)
            · skip
              try simp only [bls] at hc15
              conv => whnf
              refine FinG.mk none ?_ (by rintro _ ⟨⟩)
              simp only [outs, List.length_map, List.length_append, List.length_take, List.length_drop, List.length_cons, List.length_nil]
              rw [fir_sgn hy (by assumption) (by assumption) (by assumption) (sgn_some hn rfl (by assumption))]
              simp
            · skip
              try simp only [bls] at hc15
              conv => whnf
              refine ⟨(10), ⟨by omega, noP_s hn rfl (by assumption)⟩, (by omega), ?_⟩
              refine ⟨?_, ?_, ?_⟩
              · skip
                refine leEnv_app (by kernel_rfl) (by kernel_rfl) ?_
                repeat ((conv => whnf); first | exact True.intro | refine ⟨.rfl, ?_⟩ | refine ⟨.any, ?_⟩ | refine ⟨.nil, ?_⟩ | refine ⟨.int (by first | rfl | omega | (simp only [wrs]; omega)), ?_⟩)
              · skip
                repeat (first | exact LeVs.nil | ((conv => whnf); first | exact True.intro | exact .none | exact .row rfl | refine .cells ?_ | refine ⟨_, _, rfl, .rfl, ?_⟩ | refine ⟨_, _, rfl, .any, ?_⟩ | refine ⟨_, _, rfl, .nil, ?_⟩ | refine ⟨_, _, rfl, .int (by first | rfl | omega | (simp only [wrs]; omega)), ?_⟩ | refine ⟨?_, ?_⟩))
                done
              · skip
                exact LeFr.nil
          · skip
            conv => whnf
            refine ⟨_, rfl, ?_⟩
            conv => whnf
            refine ⟨by simp only [bls]; omega, ?_⟩
            conv => whnf
            refine .ct ?_
            conv => whnf
            refine CallG.mk (prefix_X _ _) rfl ?_
            conv => whnf
            refine bS (fun hc16 => ?_) (fun hc16 => ?_)
            · skip
              try simp only [bls] at hc16
              conv => whnf
              refine FinG.mk none ?_ (by rintro _ ⟨⟩)
              simp only [outs, List.length_map, List.length_append, List.length_take, List.length_drop, List.length_cons, List.length_nil]
              rw [fir_sgn hy (by assumption) (by assumption) (by assumption) (sgn_some hn rfl (by assumption))]
              simp
            · skip
              try simp only [bls] at hc16
              conv => whnf
              refine ⟨(11), ⟨by omega, noP_s hn rfl (by assumption)⟩, (by omega), ?_⟩
              refine ⟨?_, ?_, ?_⟩
              · skip
                refine leEnv_app (by kernel_rfl) (by kernel_rfl) ?_
                repeat ((conv => whnf); first | exact True.intro | refine ⟨.rfl, ?_⟩ | refine ⟨.any, ?_⟩ | refine ⟨.nil, ?_⟩ | refine ⟨.int (by first | rfl | omega | (simp only [wrs]; omega)), ?_⟩)
              · skip
                repeat (first | exact LeVs.nil | ((conv => whnf); first | exact True.intro | exact .none | exact .row rfl | refine .cells ?_ | refine ⟨_, _, rfl, .rfl, ?_⟩ | refine ⟨_, _, rfl, .any, ?_⟩ | refine ⟨_, _, rfl, .nil, ?_⟩ | refine ⟨_, _, rfl, .int (by first | rfl | omega | (simp only [wrs]; omega)), ?_⟩ | refine ⟨?_, ?_⟩))
                done
              · skip
                exact LeFr.nil
          · skip
            conv => whnf
            refine ⟨_, rfl, ?_⟩
            conv => whnf
            refine ⟨by simp only [bls]; omega, ?_⟩
            conv => whnf
            refine .ct ?_
            conv => whnf
            refine CallG.mk (prefix_X _ _) rfl ?_
            conv => whnf
            refine bS (fun hc17 => ?_) (fun hc17 => ?_)
            · skip
              try simp only [bls] at hc17
              conv => whnf
              refine FinG.mk none ?_ (by rintro _ ⟨⟩)
              simp only [outs, List.length_map, List.length_append, List.length_take, List.length_drop, List.length_cons, List.length_nil]
              rw [fir_sgn hy (by assumption) (by assumption) (by assumption) (sgn_some hn rfl (by assumption))]
              simp
            · skip
              try simp only [bls] at hc17
              conv => whnf
              refine ⟨(12), ⟨by omega, noP_s hn rfl (by assumption)⟩, (by omega), ?_⟩
              refine ⟨?_, ?_, ?_⟩
              · skip
                refine leEnv_app (by kernel_rfl) (by kernel_rfl) ?_
                repeat ((conv => whnf); first | exact True.intro | refine ⟨.rfl, ?_⟩ | refine ⟨.any, ?_⟩ | refine ⟨.nil, ?_⟩ | refine ⟨.int (by first | rfl | omega | (simp only [wrs]; omega)), ?_⟩)
              · skip
                repeat (first | exact LeVs.nil | ((conv => whnf); first | exact True.intro | exact .none | exact .row rfl | refine .cells ?_ | refine ⟨_, _, rfl, .rfl, ?_⟩ | refine ⟨_, _, rfl, .any, ?_⟩ | refine ⟨_, _, rfl, .nil, ?_⟩ | refine ⟨_, _, rfl, .int (by first | rfl | omega | (simp only [wrs]; omega)), ?_⟩ | refine ⟨?_, ?_⟩))
                done
              · skip
                exact LeFr.nil
          · skip
            conv => whnf
            refine ⟨_, rfl, ?_⟩
            conv => whnf
            refine ⟨by simp only [bls]; omega, ?_⟩
            conv => whnf
            refine .ct ?_
            conv => whnf
            refine CallG.mk (prefix_X _ _) rfl ?_
            conv => whnf
            refine bS (fun hc18 => ?_) (fun hc18 => ?_)
            · skip
              try simp only [bls] at hc18
              conv => whnf
              refine FinG.mk none ?_ (by rintro _ ⟨⟩)
              simp only [outs, List.length_map, List.length_append, List.length_take, List.length_drop, List.length_cons, List.length_nil]
              rw [fir_sgn hy (by assumption) (by assumption) (by assumption) (sgn_some hn rfl (by assumption))]
              simp
            · skip
              try simp only [bls] at hc18
              conv => whnf
              refine ⟨(13), ⟨by omega, noP_s hn rfl (by assumption)⟩, (by omega), ?_⟩
              refine ⟨?_, ?_, ?_⟩
              · skip
                refine leEnv_app (by kernel_rfl) (by kernel_rfl) ?_
                repeat ((conv => whnf); first | exact True.intro | refine ⟨.rfl, ?_⟩ | refine ⟨.any, ?_⟩ | refine ⟨.nil, ?_⟩ | refine ⟨.int (by first | rfl | omega | (simp only [wrs]; omega)), ?_⟩)
              · skip
                repeat (first | exact LeVs.nil | ((conv => whnf); first | exact True.intro | exact .none | exact .row rfl | refine .cells ?_ | refine ⟨_, _, rfl, .rfl, ?_⟩ | refine ⟨_, _, rfl, .any, ?_⟩ | refine ⟨_, _, rfl, .nil, ?_⟩ | refine ⟨_, _, rfl, .int (by first | rfl | omega | (simp only [wrs]; omega)), ?_⟩ | refine ⟨?_, ?_⟩))
                done
              · skip
                exact LeFr.nil
          · skip
            conv => whnf
            refine ⟨_, rfl, ?_⟩
            conv => whnf
            refine ⟨by simp only [bls]; omega, ?_⟩
            conv => whnf
            refine .ct ?_
            conv => whnf
            refine CallG.mk (prefix_X _ _) rfl ?_
            conv => whnf
            refine bS (fun hc19 => ?_) (fun hc19 => ?_)
            · skip
              try simp only [bls] at hc19
              conv => whnf
              refine FinG.mk none ?_ (by rintro _ ⟨⟩)
              simp only [outs, List.length_map, List.length_append, List.length_take, List.length_drop, List.length_cons, List.length_nil]
              rw [fir_sgn hy (by assumption) (by assumption) (by assumption) (sgn_some hn rfl (by assumption))]
              simp
            · skip
              try simp only [bls] at hc19
              conv => whnf
              refine ⟨(14), ⟨by omega, noP_s hn rfl (by assumption)⟩, (by omega), ?_⟩
              refine ⟨?_, ?_, ?_⟩
              · skip
                refine leEnv_app (by kernel_rfl) (by kernel_rfl) ?_
                repeat ((conv => whnf); first | exact True.intro | refine ⟨.rfl, ?_⟩ | refine ⟨.any, ?_⟩ | refine ⟨.nil, ?_⟩ | refine ⟨.int (by first | rfl | omega | (simp only [wrs]; omega)), ?_⟩)
              · skip
                repeat (first | exact LeVs.nil | ((conv => whnf); first | exact True.intro | exact .none | exact .row rfl | refine .cells ?_ | refine ⟨_, _, rfl, .rfl, ?_⟩ | refine ⟨_, _, rfl, .any, ?_⟩ | refine ⟨_, _, rfl, .nil, ?_⟩ | refine ⟨_, _, rfl, .int (by first | rfl | omega | (simp only [wrs]; omega)), ?_⟩ | refine ⟨?_, ?_⟩))
                done
              · skip
                exact LeFr.nil
          · skip
            conv => whnf
            refine ⟨_, rfl, ?_⟩
            conv => whnf
            refine ⟨by simp only [bls]; omega, ?_⟩
            conv => whnf
            refine .ct ?_
            conv => whnf
            refine CallG.mk (prefix_X _ _) rfl ?_
            conv => whnf
            refine bS (fun hc20 => ?_) (fun hc20 => ?_)
            · skip
              try simp only [bls] at hc20
              conv => whnf
              refine FinG.mk none ?_ (by rintro _ ⟨⟩)
              simp only [outs, List.length_map, List.length_append, List.length_take, List.length_drop, List.length_cons, List.length_nil]
              rw [fir_sgn hy (by assumption) (by assumption) (by assumption) (sgn_some hn rfl (by assumption))]
              simp
            · skip
              try simp only [bls] at hc20
              conv => whnf
              refine ⟨(15), ⟨by omega, noP_s hn rfl (by assumption)⟩, (by omega), ?_⟩
              refine ⟨?_, ?_, ?_⟩
              · skip
                refine leEnv_app (by kernel_rfl) (by kernel_rfl) ?_
                repeat ((conv => whnf); first | exact True.intro | refine ⟨.rfl, ?_⟩ | refine ⟨.any, ?_⟩ | refine ⟨.nil, ?_⟩ | refine ⟨.int (by first | rfl | omega | (simp only [wrs]; omega)), ?_⟩)
              · skip
                repeat (first | exact LeVs.nil | ((conv => whnf); first | exact True.intro | exact .none | exact .row rfl | refine .cells ?_ | refine ⟨_, _, rfl, .rfl, ?_⟩ | refine ⟨_, _, rfl, .any, ?_⟩ | refine ⟨_, _, rfl, .nil, ?_⟩ | refine ⟨_, _, rfl, .int (by first | rfl | omega | (simp only [wrs]; omega)), ?_⟩ | refine ⟨?_, ?_⟩))
                done
              · skip
                exact LeFr.nil
          · skip
            conv => whnf
            refine ⟨_, rfl, ?_⟩
            conv => whnf
            refine ⟨by simp only [bls]; omega, ?_⟩
            conv => whnf
            refine .ct ?_
            conv => whnf
            refine CallG.mk (prefix_X _ _) rfl ?_
            conv => whnf
            refine bS (fun hc21 => ?_) (fun hc21 => ?_)
            · skip
              try simp only [bls] at hc21
              conv => whnf
              refine FinG.mk none ?_ (by rintro _ ⟨⟩)
              simp only [outs, List.length_map, List.length_append, List.length_take, List.length_drop, List.length_cons, List.length_nil]
              rw [fir_sgn hy (by assumption) (by assumption) (by assumption) (sgn_some hn rfl (by assumption))]
              simp
            · skip
              try simp only [bls] at hc21
              conv => whnf
              refine ⟨(16), ⟨by omega, noP_s hn rfl (by assumption)⟩, (by omega), ?_⟩
              refine ⟨?_, ?_, ?_⟩
              · skip
                refine leEnv_app (by kernel_rfl) (by kernel_rfl) ?_
                repeat ((conv => whnf); first | exact True.intro | refine ⟨.rfl, ?_⟩ | refine ⟨.any, ?_⟩ | refine ⟨.nil, ?_⟩ | refine ⟨.int (by first | rfl | omega | (simp only [wrs]; omega)), ?_⟩)
              · skip
                repeat (first | exact LeVs.nil | ((conv => whnf); first | exact True.intro | exact .none | exact .row rfl | refine .cells ?_ | refine ⟨_, _, rfl, .rfl, ?_⟩ | refine ⟨_, _, rfl, .any, ?_⟩ | refine ⟨_, _, rfl, .nil, ?_⟩ | refine ⟨_, _, rfl, .int (by first | rfl | omega | (simp only [wrs]; omega)), ?_⟩ | refine ⟨?_, ?_⟩))
                done
              · skip
                exact LeFr.nil
          · skip
            conv => whnf
            refine FinG.mk none ?_ (by rintro _ ⟨⟩)
            simp only [outs, List.length_map, List.length_append, List.length_take, List.length_drop, List.length_cons, List.length_nil]
            rw [fir_nos hy (by assumption) (by assumption) (by assumption) (sgn_none hn)]
            simp [badT]
end Go.Proofs.YtekpmlfcmnlmiaaGreatDoor
