/- Blanks. No condition. -/
import Derived.Test.YtekpmlfcmnlmiaaGreatDoorJD
import Derived.Test.YtekpmlfcmnlmiaaGreatDoorU20
namespace Go.Proofs.YtekpmlfcmnlmiaaGreatDoor
open Go.RowKit
set_option linter.unusedVariables false
set_option linter.unusedSimpArgs false
set_option maxRecDepth 20000
def isS (c : Int) : Bool := decide (c = 32) || decide (c = 9) || decide (c = 10) || decide (c = 13)
def isN (c : Int) : Bool := !decide (c = 10)
/-- How many bytes of blanks and remarks (true: in a remark). -/
def blk : Bool → List UInt8 → Nat
  | _, [] => 0
  | false, c :: l => if isS (c.toNat : Int) = true then 1 + blk false l else if c = 45 ∧ l.head? = some 45 then 1 + blk true l else 0
  | true, c :: l => if c = 10 then 1 + blk false l else 1 + blk true l
set_option maxRecDepth 20000 in
theorem blank1_X (c : Int) : XMeets Tryz.prog 75 [.v (.int .u8 c)] (.p (.v (.bool (isS c))) (nlv _)) := by
  refine XMeets.of_X tabX_ok (avs := [.p (.v (.int .u8 c)) (nlv _)]) [(0, .p (.v (.int .u8 c)) (nlv _))] (by kernel_rfl) Tryz.func75 rfl (by simp [PuL, Pu]) (rfl) rfl rfl ?_
  intro B w0
  conv => whnf
  refine bS (fun hc1 => ?_) (fun hc1 => ?_)
  · skip
    try simp only [bls] at hc1
    conv => whnf
    refine bT (decide_eq_true (by omega)) ?_
    conv => whnf
    refine bT (decide_eq_true (by omega)) ?_
    conv => whnf
    refine FinG.mk none ?_ (by rintro _ ⟨⟩)
    simp only [outs, List.length_map, List.length_append, List.length_take, List.length_drop, List.length_cons, List.length_nil]
    simp_all [isS]; done
  · skip
    try simp only [bls] at hc1
    conv => whnf
    refine bF (decide_eq_false (by omega)) ?_
    conv => whnf
    refine bF (decide_eq_false (by omega)) ?_
    conv => whnf
    refine bS (fun hc2 => ?_) (fun hc2 => ?_)
    · skip
      try simp only [bls] at hc2
      conv => whnf
      refine bT (decide_eq_true (by omega)) ?_
      conv => whnf
      refine bT (decide_eq_true (by omega)) ?_
      conv => whnf
      refine FinG.mk none ?_ (by rintro _ ⟨⟩)
      simp only [outs, List.length_map, List.length_append, List.length_take, List.length_drop, List.length_cons, List.length_nil]
      simp_all [isS]; done
    · skip
      try simp only [bls] at hc2
      conv => whnf
      refine bF (decide_eq_false (by omega)) ?_
      conv => whnf
      refine bF (decide_eq_false (by omega)) ?_
      conv => whnf
      refine bS (fun hc3 => ?_) (fun hc3 => ?_)
      · skip
        try simp only [bls] at hc3
        conv => whnf
        refine bT (decide_eq_true (by omega)) ?_
        conv => whnf
        refine bT (decide_eq_true (by omega)) ?_
        conv => whnf
        refine FinG.mk none ?_ (by rintro _ ⟨⟩)
        simp only [outs, List.length_map, List.length_append, List.length_take, List.length_drop, List.length_cons, List.length_nil]
        simp_all [isS]; done
      · skip
        try simp only [bls] at hc3
        conv => whnf
        refine bF (decide_eq_false (by omega)) ?_
        conv => whnf
        refine bF (decide_eq_false (by omega)) ?_
        conv => whnf
        refine FinG.mk none ?_ (by rintro _ ⟨⟩)
        simp only [outs, List.length_map, List.length_append, List.length_take, List.length_drop, List.length_cons, List.length_nil]
        simp_all [isS]; done
set_option maxRecDepth 20000 in
theorem blank2_X (c : Int) : XMeets Tryz.prog 76 [.v (.int .u8 c)] (.p (.v (.bool (isN c))) (nlv _)) := by
  refine XMeets.of_X tabX_ok (avs := [.p (.v (.int .u8 c)) (nlv _)]) [(0, .p (.v (.int .u8 c)) (nlv _))] (by kernel_rfl) Tryz.func76 rfl (by simp [PuL, Pu]) (rfl) rfl rfl ?_
  intro B w0
  conv => whnf
  refine FinG.mk none ?_ (by rintro _ ⟨⟩)
  simp only [outs, List.length_map, List.length_append, List.length_take, List.length_drop, List.length_cons, List.length_nil]
  rfl
set_option maxRecDepth 20000 in
theorem endS_X (s : ByteArray) (hs : s.size ≤ 140737488355328) : XMeets Tryz.prog 39 [.v (.string s), .fn (.func 75) []] (.p (.v (.int .i64 ((endN isS (bs s) : Int)))) (nlv _)) := by
  refine XMeets.of_X tabX_ok (avs := [.p (.v (.string s)) (nlv _), .fu (.func 75) []]) [(0, .p (.v (.string s)) (nlv _)), (1, .fu (.func 75) [])] (by kernel_rfl) Tryz.func39 rfl (by simp [PuL, Pu]) (rfl) rfl rfl ?_
  intro B w0
  have hsl := bs_len s
  conv => whnf
  refine XT.loop tabX_ok (Y := Nat) [5, 6, 7, 8, 9, 10, 11, 12, 13, 14, 15, 16, 17, 18] (fun k => [(5, .p (.v (.int .i64 ((k : Int)))) (nlv _))]) (fun k => []) (fun k => k ≤ (bs s).length ∧ allW isS (bs s) k) (fun k => (bs s).length - k) 0 ⟨Nat.zero_le _, allW_0 _ _⟩ ?_ ?_
  · skip
    refine ⟨?_, ?_, ?_⟩
    · skip
      refine leEnv_app (by kernel_rfl) (by kernel_rfl) ?_
      repeat ((conv => whnf); first | exact True.intro | refine ⟨.rfl, ?_⟩ | refine ⟨.any, ?_⟩ | refine ⟨.nil, ?_⟩ | refine ⟨.int (by first | rfl | omega | (simp only [wrs]; omega)), ?_⟩)
    · skip
      repeat (first | exact LeVs.nil | ((conv => whnf); first | exact True.intro | exact .none | exact .row rfl | refine .cells ?_ | refine ⟨_, _, rfl, .rfl, ?_⟩ | refine ⟨_, _, rfl, .any, ?_⟩ | refine ⟨_, _, rfl, .nil, ?_⟩ | refine ⟨_, _, rfl, .int (by first | rfl | omega | (simp only [wrs]; omega)), ?_⟩ | refine ⟨?_, ?_⟩))
      done
    · skip
      exact LeFr.nil
  · skip
    rintro k ⟨hk, ha⟩
    conv => whnf
    refine bS (fun hc1 => ?_) (fun hc1 => ?_)
    · skip
      try simp only [bls] at hc1
      conv => whnf
      refine bT (decide_eq_true (by omega)) ?_
      conv => whnf
      refine bT (decide_eq_true (by omega)) ?_
      conv => whnf
      refine bT (decide_eq_true (by omega)) ?_
      conv => whnf
      refine str_ex k rfl (by omega) ?_; intro y hy hy0 hy1
      conv => whnf
      refine bT (decide_eq_true (by omega)) ?_
      conv => whnf
      refine .ct ?_
      conv => whnf
      refine CallG.mk (blank1_X _) rfl ?_
      conv => whnf
      refine bT (decide_eq_true (by omega)) ?_
      conv => whnf
      refine bS (fun hc2 => ?_) (fun hc2 => ?_)
      · skip
        try simp only [bls] at hc2
        conv => whnf
        refine ⟨(k + 1), ⟨by omega, allW_s ha hy (by assumption)⟩, (by omega), ?_⟩
        refine ⟨?_, ?_, ?_⟩
        · skip
          refine leEnv_app (by kernel_rfl) (by kernel_rfl) ?_
          repeat ((conv => whnf); first | exact True.intro | refine ⟨.rfl, ?_⟩ | refine ⟨.any, ?_⟩ | refine ⟨.nil, ?_⟩ | refine ⟨.int (by first | rfl | omega | (simp only [wrs]; omega)), ?_⟩)
        · skip
          repeat (first | exact LeVs.nil | ((conv => whnf); first | exact True.intro | exact .none | exact .row rfl | refine .cells ?_ | refine ⟨_, _, rfl, .rfl, ?_⟩ | refine ⟨_, _, rfl, .any, ?_⟩ | refine ⟨_, _, rfl, .nil, ?_⟩ | refine ⟨_, _, rfl, .int (by first | rfl | omega | (simp only [wrs]; omega)), ?_⟩ | refine ⟨?_, ?_⟩))
          done
        · skip
          exact LeFr.nil
      · skip
        try simp only [bls] at hc2
        conv => whnf
        refine FinG.mk none ?_ (by rintro _ ⟨⟩)
        simp only [outs, List.length_map, List.length_append, List.length_take, List.length_drop, List.length_cons, List.length_nil]
        rw [endN_is ha (by omega) (fun c hc => by rw [hc] at hy; cases hy; assumption)]
    · skip
      try simp only [bls] at hc1
      conv => whnf
      refine bF (decide_eq_false (by omega)) ?_
      conv => whnf
      refine bF (decide_eq_false (by omega)) ?_
      conv => whnf
      refine bF (decide_eq_false (by omega)) ?_
      conv => whnf
      refine bF (decide_eq_false (by omega)) ?_
      conv => whnf
      refine bF (decide_eq_false (by omega)) ?_
      conv => whnf
      refine FinG.mk none ?_ (by rintro _ ⟨⟩)
      simp only [outs, List.length_map, List.length_append, List.length_take, List.length_drop, List.length_cons, List.length_nil]
      rw [endN_is ha (by omega) (fun c hc => by have := (List.getElem?_eq_some_iff.1 hc).1; omega)]
set_option maxRecDepth 20000 in
theorem endT_X (s : ByteArray) (hs : s.size ≤ 140737488355328) : XMeets Tryz.prog 39 [.v (.string s), .fn (.func 76) []] (.p (.v (.int .i64 ((endN isN (bs s) : Int)))) (nlv _)) := by
  refine XMeets.of_X tabX_ok (avs := [.p (.v (.string s)) (nlv _), .fu (.func 76) []]) [(0, .p (.v (.string s)) (nlv _)), (1, .fu (.func 76) [])] (by kernel_rfl) Tryz.func39 rfl (by simp [PuL, Pu]) (rfl) rfl rfl ?_
  intro B w0
  have hsl := bs_len s
  conv => whnf
  refine XT.loop tabX_ok (Y := Nat) [5, 6, 7, 8, 9, 10, 11, 12, 13, 14, 15, 16, 17, 18] (fun k => [(5, .p (.v (.int .i64 ((k : Int)))) (nlv _))]) (fun k => []) (fun k => k ≤ (bs s).length ∧ allW isN (bs s) k) (fun k => (bs s).length - k) 0 ⟨Nat.zero_le _, allW_0 _ _⟩ ?_ ?_
  · skip
    refine ⟨?_, ?_, ?_⟩
    · skip
      refine leEnv_app (by kernel_rfl) (by kernel_rfl) ?_
      repeat ((conv => whnf); first | exact True.intro | refine ⟨.rfl, ?_⟩ | refine ⟨.any, ?_⟩ | refine ⟨.nil, ?_⟩ | refine ⟨.int (by first | rfl | omega | (simp only [wrs]; omega)), ?_⟩)
    · skip
      repeat (first | exact LeVs.nil | ((conv => whnf); first | exact True.intro | exact .none | exact .row rfl | refine .cells ?_ | refine ⟨_, _, rfl, .rfl, ?_⟩ | refine ⟨_, _, rfl, .any, ?_⟩ | refine ⟨_, _, rfl, .nil, ?_⟩ | refine ⟨_, _, rfl, .int (by first | rfl | omega | (simp only [wrs]; omega)), ?_⟩ | refine ⟨?_, ?_⟩))
      done
    · skip
      exact LeFr.nil
  · skip
    rintro k ⟨hk, ha⟩
    conv => whnf
    refine bS (fun hc1 => ?_) (fun hc1 => ?_)
    · skip
      try simp only [bls] at hc1
      conv => whnf
      refine bT (decide_eq_true (by omega)) ?_
      conv => whnf
      refine bT (decide_eq_true (by omega)) ?_
      conv => whnf
      refine bT (decide_eq_true (by omega)) ?_
      conv => whnf
      refine str_ex k rfl (by omega) ?_; intro y hy hy0 hy1
      conv => whnf
      refine bT (decide_eq_true (by omega)) ?_
      conv => whnf
      refine .ct ?_
      conv => whnf
      refine CallG.mk (blank2_X _) rfl ?_
      conv => whnf
      refine bT (decide_eq_true (by omega)) ?_
      conv => whnf
      refine bS (fun hc2 => ?_) (fun hc2 => ?_)
      · skip
        try simp only [bls] at hc2
        conv => whnf
        refine ⟨(k + 1), ⟨by omega, allW_s ha hy (by assumption)⟩, (by omega), ?_⟩
        refine ⟨?_, ?_, ?_⟩
        · skip
          refine leEnv_app (by kernel_rfl) (by kernel_rfl) ?_
          repeat ((conv => whnf); first | exact True.intro | refine ⟨.rfl, ?_⟩ | refine ⟨.any, ?_⟩ | refine ⟨.nil, ?_⟩ | refine ⟨.int (by first | rfl | omega | (simp only [wrs]; omega)), ?_⟩)
        · skip
          repeat (first | exact LeVs.nil | ((conv => whnf); first | exact True.intro | exact .none | exact .row rfl | refine .cells ?_ | refine ⟨_, _, rfl, .rfl, ?_⟩ | refine ⟨_, _, rfl, .any, ?_⟩ | refine ⟨_, _, rfl, .nil, ?_⟩ | refine ⟨_, _, rfl, .int (by first | rfl | omega | (simp only [wrs]; omega)), ?_⟩ | refine ⟨?_, ?_⟩))
          done
        · skip
          exact LeFr.nil
      · skip
        try simp only [bls] at hc2
        conv => whnf
        refine FinG.mk none ?_ (by rintro _ ⟨⟩)
        simp only [outs, List.length_map, List.length_append, List.length_take, List.length_drop, List.length_cons, List.length_nil]
        rw [endN_is ha (by omega) (fun c hc => by rw [hc] at hy; cases hy; assumption)]
    · skip
      try simp only [bls] at hc1
      conv => whnf
      refine bF (decide_eq_false (by omega)) ?_
      conv => whnf
      refine bF (decide_eq_false (by omega)) ?_
      conv => whnf
      refine bF (decide_eq_false (by omega)) ?_
      conv => whnf
      refine bF (decide_eq_false (by omega)) ?_
      conv => whnf
      refine bF (decide_eq_false (by omega)) ?_
      conv => whnf
      refine FinG.mk none ?_ (by rintro _ ⟨⟩)
      simp only [outs, List.length_map, List.length_append, List.length_take, List.length_drop, List.length_cons, List.length_nil]
      rw [endN_is ha (by omega) (fun c hc => by have := (List.getElem?_eq_some_iff.1 hc).1; omega)]
theorem bs_extr (x : ByteArray) (a b : Nat) : bs (x.extract a b) = ((bs x).drop a).take (b - a) := by
  unfold bs
  rw [ByteArray.data_extract, Array.toList_extract]
theorem bs_drop (x : ByteArray) (a : Nat) : bs (x.extract a x.size) = (bs x).drop a := by
  rw [bs_extr]
  exact List.take_of_length_le (by rw [List.length_drop, bs_len]; omega)
theorem endN_cons (p : Int → Bool) (c : UInt8) (l : List UInt8) : endN p (c :: l) = if p (c.toNat : Int) = true then endN p l + 1 else 0 := by
  unfold endN
  cases h : p (c.toNat : Int) with
  | true => rw [List.takeWhile_cons_of_pos (by simp [h])]; simp
  | false => rw [List.takeWhile_cons_of_neg (by simp [h])]; simp
theorem blk_S : ∀ l : List UInt8, blk false l = endN isS l + blk false (l.drop (endN isS l))
  | [] => rfl
  | c :: l => by
    rw [endN_cons]
    by_cases h : isS (c.toNat : Int) = true
    · rw [if_pos h, List.drop_succ_cons]
      have := blk_S l
      rw [blk, if_pos h]; omega
    · rw [if_neg h]; simp
theorem blk_T : ∀ l : List UInt8, blk true l = endN isN l + blk false (l.drop (endN isN l))
  | [] => rfl
  | c :: l => by
    rw [endN_cons]
    by_cases h : c = 10
    · subst h
      rw [if_neg (by decide)]
      simp only [List.drop_zero, Nat.zero_add]
      simp [blk, show isS 10 = true from by decide]
    · have h1 : isN (c.toNat : Int) = true := by
        unfold isN
        have : ¬ ((c.toNat : Int) = 10) := fun e => h (UInt8.toNat_inj.1 (show c.toNat = 10 by omega))
        simp [this]
      rw [if_pos h1, List.drop_succ_cons]
      have := blk_T l
      rw [blk, if_neg h]; omega
theorem blk_P {l : List UInt8} (h : Lib.hasPrefix l [45, 45] = true) : blk false l = blk true l := by
  match l, h with
  | a :: b :: r, h =>
    simp [Lib.hasPrefix] at h
    obtain ⟨rfl, rfl⟩ := h
    rfl
  | [a], h => simp [Lib.hasPrefix] at h
  | [], h => simp [Lib.hasPrefix] at h
theorem blk_N {l : List UInt8} (h : Lib.hasPrefix l [45, 45] = false) (h0 : ∀ c, l.head? = some c → isS (c.toNat : Int) = false) : blk false l = 0 := by
  match l, h with
  | [], h => rfl
  | [a], h => simp [blk, h0 a rfl]
  | a :: b :: r, h =>
    have := h0 a rfl
    rw [blk, if_neg (by simp [this]), if_neg]
    rintro ⟨rfl, h2⟩
    simp at h2
    subst h2
    simp [Lib.hasPrefix] at h
theorem endN_head {p : Int → Bool} : ∀ {l : List UInt8} (c : UInt8), (l.drop (endN p l)).head? = some c → p (c.toNat : Int) = false
  | [], c, h => by simp at h
  | a :: l, c, h => by
    rw [endN_cons] at h
    by_cases hp : p (a.toNat : Int) = true
    · rw [if_pos hp, List.drop_succ_cons] at h
      exact endN_head c h
    · rw [if_neg hp] at h
      simp at h; subst h; simpa using hp
/-- What is left behind blanks; and behind a remark too. -/
abbrev unS (x : ByteArray) : ByteArray := x.extract (endN isS (bs x)) x.size
abbrev unR (x : ByteArray) : ByteArray := (unS x).extract (endN isN (bs (unS x))) (unS x).size
theorem endN_sz (p : Int → Bool) (x : ByteArray) : endN p (bs x) ≤ x.size := by
  have := endN_le p (bs x)
  rwa [bs_len] at this
def dash : ByteArray := ⟨#[45, 45]⟩
/-- What is left, so that nothing is lost. -/
def bkB (s x : ByteArray) : Prop := x.size ≤ s.size ∧ blk false (bs s) + x.size = s.size + blk false (bs x)
theorem bkB_0 (s : ByteArray) : bkB s s := ⟨Nat.le_refl _, Nat.add_comm _ _⟩
theorem unS_size (x : ByteArray) : (unS x).size + endN isS (bs x) = x.size := by
  have h1 := bs_len (unS x)
  have h2 := bs_len x
  have h3 := endN_le isS (bs x)
  rw [bs_drop, List.length_drop] at h1
  omega
theorem unR_size (x : ByteArray) : (unR x).size + endN isN (bs (unS x)) = (unS x).size := by
  have h1 := bs_len (unR x)
  have h2 := bs_len (unS x)
  have h3 := endN_le isN (bs (unS x))
  rw [bs_drop, List.length_drop] at h1
  omega
theorem bs_unS (x : ByteArray) : bs (unS x) = (bs x).drop (endN isS (bs x)) := bs_drop _ _
theorem bs_unR (x : ByteArray) : bs (unR x) = (bs (unS x)).drop (endN isN (bs (unS x))) := bs_drop _ _
theorem bkB_S {s x : ByteArray} (h : bkB s x) : bkB s (unS x) := by
  have h1 := unS_size x
  have h2 := blk_S (bs x)
  rw [← bs_unS] at h2
  exact ⟨by have := h.1; omega, by have := h.2; omega⟩
theorem bkB_R {s x : ByteArray} (h : bkB s x) (hp : Lib.hasPrefix (bs (unS x)) (bs dash) = true) : bkB s (unR x) := by
  have h0 := bkB_S h
  have h1 := unR_size x
  have h2 := blk_T (bs (unS x))
  rw [← bs_unR, ← blk_P hp] at h2
  exact ⟨by have := h0.1; omega, by have := h0.2; omega⟩
theorem unR_less {x : ByteArray} (hp : Lib.hasPrefix (bs (unS x)) (bs dash) = true) : (unR x).size < x.size := by
  have h1 := unR_size x
  have h2 := unS_size x
  have h3 : 0 < endN isN (bs (unS x)) := by
    match hl : bs (unS x), hp with
    | a :: b :: r, hp =>
      simp [Lib.hasPrefix, dash, bs] at hp
      rw [endN_cons, ← hp.1, if_pos (by decide)]; omega
    | [a], h => simp [Lib.hasPrefix, dash, bs] at h
    | [], h => simp [Lib.hasPrefix, dash, bs] at h
  omega
theorem bkB_end {s x : ByteArray} (h : bkB s x) (hp : Lib.hasPrefix (bs (unS x)) (bs dash) = false) : (s.size : Int) - (unS x).size = (blk false (bs s) : Int) := by
  have h0 := bkB_S h
  have h1 := blk_N hp (fun c hc => by rw [bs_unS] at hc; exact endN_head c hc)
  have := h0.1
  have := h0.2
  omega
theorem bkB_w {s x : ByteArray} (hs : s.size ≤ 140737488355328) (h : bkB s x) (hp : Lib.hasPrefix (bs (unS x)) (bs dash) = false) : IntKind.i64.wrap ((s.size : Int) - (unS x).size) = (blk false (bs s) : Int) := by
  have h1 := bkB_end h hp
  have h0 := (bkB_S h).1
  rw [wz.1 _ (by omega) (by omega)]; exact h1
set_option maxRecDepth 20000 in
theorem blank_X (s : ByteArray) (hs : s.size ≤ 140737488355328) : XMeets Tryz.prog 56 [.v (.string s)] (.p (.v (.int .i64 ((blk false (bs s) : Int)))) (nlv _)) := by
  refine XMeets.of_XM [(0, .p (.v (.bool true)) (nlv _))] tabX_ok (avs := [.p (.v (.string s)) (nlv _)]) [(0, .p (.v (.string s)) (nlv _))] (by kernel_rfl) Tryz.func56 rfl (by simp [PuL, Pu]) (rfl) rfl rfl ?_
  intro B w0
  conv => whnf
  refine XT.again tabX_ok (Y := ByteArray) 0 (by rfl) [0, 2, 3, 4, 5, 6, 7, 8, 9, 10, 11, 12, 13, 14, 15, 16, 17, 18, 19, 20, 21] (fun x => [(0, .p (.v (.string (x))) (nlv _)), (3, .p (.v (.int .i64 ((s.size : Int)))) (nlv _))]) (fun x => []) (fun x => bkB s x) (fun x => x.size) ?_ ?_
  · skip
    conv => whnf
    refine XT.pass tabX_ok ?_
    conv => whnf
    refine .ct ?_
    conv => whnf
    refine CallG.mk (endS_X _ (by first | assumption | (have := unS_size s; show (unS s).size ≤ _; omega) | (have := hx.1; omega) | (have := hx.1; have := unS_size x; show (unS x).size ≤ _; omega))) rfl ?_
    conv => whnf
    refine ⟨_, rfl, ?_⟩
    conv => whnf
    refine ⟨endN_sz _ _, ?_⟩
    conv => whnf
    refine ⟨Nat.le_refl _, ?_⟩
    conv => whnf
    refine .ct ?_
    conv => whnf
    refine CallG.mk (prefix_X _ _) rfl ?_
    conv => whnf
    refine bS (fun hc1 => ?_) (fun hc1 => ?_)
    · skip
      try simp only [bls] at hc1
      conv => whnf
      refine .ct ?_
      conv => whnf
      refine CallG.mk (endT_X _ (by first | assumption | (have := unS_size s; show (unS s).size ≤ _; omega) | (have := hx.1; omega) | (have := hx.1; have := unS_size x; show (unS x).size ≤ _; omega))) rfl ?_
      conv => whnf
      refine ⟨_, rfl, ?_⟩
      conv => whnf
      refine ⟨endN_sz _ _, ?_⟩
      conv => whnf
      refine ⟨Nat.le_refl _, ?_⟩
      conv => whnf
      refine ⟨(unR s), bkB_R (bkB_0 s) (by assumption), ?_⟩
      refine ⟨?_, ?_, ?_⟩
      · skip
        refine leEnv_app (by kernel_rfl) (by kernel_rfl) ?_
        repeat ((conv => whnf); first | exact True.intro | refine ⟨.rfl, ?_⟩ | refine ⟨.any, ?_⟩ | refine ⟨.nil, ?_⟩ | refine ⟨.int (by first | rfl | omega | (simp only [wrs]; omega)), ?_⟩)
      · skip
        repeat (first | exact LeVs.nil | ((conv => whnf); first | exact True.intro | exact .none | exact .row rfl | refine .cells ?_ | refine ⟨_, _, rfl, .rfl, ?_⟩ | refine ⟨_, _, rfl, .any, ?_⟩ | refine ⟨_, _, rfl, .nil, ?_⟩ | refine ⟨_, _, rfl, .int (by first | rfl | omega | (simp only [wrs]; omega)), ?_⟩ | refine ⟨?_, ?_⟩))
        done
      · skip
        exact LeFr.same (by kernel_rfl)
    · skip
      try simp only [bls] at hc1
      conv => whnf
      refine FinG.mk none ?_ (by rintro _ ⟨⟩)
      simp only [outs, List.length_map, List.length_append, List.length_take, List.length_drop, List.length_cons, List.length_nil]
      rw [bkB_w hs (bkB_0 s) (by assumption)]
  · skip
    rintro x hx
    conv => whnf
    refine XT.pass tabX_ok ?_
    conv => whnf
    refine .ct ?_
    conv => whnf
    refine CallG.mk (endS_X _ (by first | assumption | (have := unS_size s; show (unS s).size ≤ _; omega) | (have := hx.1; omega) | (have := hx.1; have := unS_size x; show (unS x).size ≤ _; omega))) rfl ?_
    conv => whnf
    refine ⟨_, rfl, ?_⟩
    conv => whnf
    refine ⟨endN_sz _ _, ?_⟩
    conv => whnf
    refine ⟨Nat.le_refl _, ?_⟩
    conv => whnf
    refine .ct ?_
    conv => whnf
    refine CallG.mk (prefix_X _ _) rfl ?_
    conv => whnf
    refine bS (fun hc2 => ?_) (fun hc2 => ?_)
    · skip
      try simp only [bls] at hc2
      conv => whnf
      refine .ct ?_
      conv => whnf
      refine CallG.mk (endT_X _ (by first | assumption | (have := unS_size s; show (unS s).size ≤ _; omega) | (have := hx.1; omega) | (have := hx.1; have := unS_size x; show (unS x).size ≤ _; omega))) rfl ?_
      conv => whnf
      refine ⟨_, rfl, ?_⟩
      conv => whnf
      refine ⟨endN_sz _ _, ?_⟩
      conv => whnf
      refine ⟨Nat.le_refl _, ?_⟩
      conv => whnf
      refine ⟨(unR x), bkB_R hx (by assumption), unR_less (by assumption), ?_⟩
      refine ⟨?_, ?_, ?_⟩
      · skip
        refine leEnv_app (by kernel_rfl) (by kernel_rfl) ?_
        repeat ((conv => whnf); first | exact True.intro | refine ⟨.rfl, ?_⟩ | refine ⟨.any, ?_⟩ | refine ⟨.nil, ?_⟩ | refine ⟨.int (by first | rfl | omega | (simp only [wrs]; omega)), ?_⟩)
      · skip
        repeat (first | exact LeVs.nil | ((conv => whnf); first | exact True.intro | exact .none | exact .row rfl | refine .cells ?_ | refine ⟨_, _, rfl, .rfl, ?_⟩ | refine ⟨_, _, rfl, .any, ?_⟩ | refine ⟨_, _, rfl, .nil, ?_⟩ | refine ⟨_, _, rfl, .int (by first | rfl | omega | (simp only [wrs]; omega)), ?_⟩ | refine ⟨?_, ?_⟩))
        done
      · skip
        exact LeFr.same (by kernel_rfl)
    · skip
      try simp only [bls] at hc2
      conv => whnf
      refine FinG.mk none ?_ (by rintro _ ⟨⟩)
      simp only [outs, List.length_map, List.length_append, List.length_take, List.length_drop, List.length_cons, List.length_nil]
      rw [bkB_w hs hx (by assumption)]
end Go.Proofs.YtekpmlfcmnlmiaaGreatDoor
