/- Same, what the law asks with, and whether the layer does anything; the walk of LexWords. Condition: what the package-level variables hold. -/
import Derived.Test.YtekpmlfcmnlmiaaGreatDoorX6
import Derived.Test.YtekpmlfcmnlmiaaGreatDoorJH
namespace Go.Proofs.YtekpmlfcmnlmiaaGreatDoor
open Go.RowKit
set_option linter.unusedVariables false
set_option linter.unusedSimpArgs false
set_option maxRecDepth 20000
/-- A token that comes in. -/
def TokIn (y : Yl) : Prop := (-9223372036854775808 ≤ y.n ∧ y.n ≤ 9223372036854775807) ∧ y.t.size ≤ 100000
def TokInL (l : List Yl) : Prop := ∀ y ∈ l, TokIn y
/-- A token's text. -/
def wriT (y : Yl) : ByteArray := if y.k = 3 then itoS y.n else if y.k = 4 then quoS y.t else y.t
theorem wri_3 {y : Yl} (h : y.k = 3) : wriT y = itoS y.n := by unfold wriT; rw [if_pos h]
theorem wri_4 {y : Yl} (h : y.k = 4) : wriT y = quoS y.t := by unfold wriT; rw [if_neg (by omega), if_pos h]
theorem wri_o {y : Yl} (h : ¬ y.k = 3) (h2 : ¬ y.k = 4) : wriT y = y.t := by unfold wriT; rw [if_neg h, if_neg h2]
set_option maxRecDepth 20000 in
theorem written_X (y : Yl) (hy : TokIn y) : XMeets Tryz.prog 22 [.agg (tokC y)] (.p (.v (.string (wriT y))) (nlv _)) := by
  refine XMeets.of_X tabX_ok (avs := [.ag [.p (.v (.int .i64 (y.k))) (nlv _), .p (.v (.string (y.t))) (nlv _), .p (.v (.int .i64 (y.n))) (nlv _), .p (.v (.int .i64 (y.a))) (nlv _), .p (.v (.int .i64 (y.z))) (nlv _)]]) [(0, .ag [.p (.v (.int .i64 (y.k))) (nlv _), .p (.v (.string (y.t))) (nlv _), .p (.v (.int .i64 (y.n))) (nlv _), .p (.v (.int .i64 (y.a))) (nlv _), .p (.v (.int .i64 (y.z))) (nlv _)])] (by kernel_rfl) Tryz.func22 rfl (by simp [PuL, Pu, tokC]) (by simp [untagL, untag, tokC, XV.den, XV.denL]) rfl rfl ?_
  intro B w0
  have hy1 := hy.1
  have hy2 := hy.2
  conv => whnf
  refine bS (fun hc1 => ?_) (fun hc1 => ?_)
  · skip
    try simp only [bls] at hc1
    conv => whnf
    refine .ct ?_
    conv => whnf
    refine CallG.mk (format_X _ (by omega) (by omega)) rfl ?_
    conv => whnf
    refine FinG.mk none ?_ (by rintro _ ⟨⟩)
    simp only [outs, List.length_map, List.length_append, List.length_take, List.length_drop, List.length_cons, List.length_nil]
    rw [wri_3 (by assumption)]
  · skip
    try simp only [bls] at hc1
    conv => whnf
    refine bS (fun hc2 => ?_) (fun hc2 => ?_)
    · skip
      try simp only [bls] at hc2
      conv => whnf
      refine .ct ?_
      conv => whnf
      refine CallG.mk (quote_X _ (by omega)) rfl ?_
      conv => whnf
      refine FinG.mk none ?_ (by rintro _ ⟨⟩)
      simp only [outs, List.length_map, List.length_append, List.length_take, List.length_drop, List.length_cons, List.length_nil]
      rw [wri_4 (by assumption)]
    · skip
      try simp only [bls] at hc2
      conv => whnf
      refine FinG.mk none ?_ (by rintro _ ⟨⟩)
      simp only [outs, List.length_map, List.length_append, List.length_take, List.length_drop, List.length_cons, List.length_nil]
      rw [wri_o (by assumption) (by assumption)]
theorem dig_len (u : Nat) (h : u ≤ 10 ^ 30) : ∀ k, u < 10 ^ k → 1 ≤ k → (Lib.decDigits u).length ≤ k := by
  intro k
  induction k generalizing u with
  | zero => intro _ h; omega
  | succ k ih =>
    intro hu _
    rw [Lib.decDigits]
    split
    · simp
    · rename_i h10
      rcases Nat.eq_zero_or_pos k with hk | hk
      · subst hk; simp at hu; omega
      · have := ih (u / 10) (by omega) (by rw [Nat.div_lt_iff_lt_mul (by omega)]; rwa [Nat.pow_succ] at hu) hk
        simp; omega
theorem ito_len {n : Int} (h : -9223372036854775808 ≤ n ∧ n ≤ 9223372036854775807) : (itoS n).size ≤ 20 := by
  show (Lib.itoa n).toArray.size ≤ 20
  rw [List.size_toArray]
  unfold Lib.itoa
  split
  · have := dig_len n.natAbs (by omega) 19 (by omega) (by omega)
    simp; omega
  · have := dig_len n.toNat (by omega) 20 (by omega) (by omega)
    omega
theorem quo_size (s : ByteArray) : (quoS s).size ≤ 2 * s.size + 2 := by
  have h1 := quo_len (numS s) (numS s).length
  rw [List.take_of_length_le (Nat.le_refl _), numS_len] at h1
  unfold quoS
  have h2 : ∀ l : List Int, (strOfNums l).size = l.length := fun l => by simp [strOfNums, ByteArray.size]
  rw [h2]; simp; omega
theorem wri_size {y : Yl} (h : TokIn y) : (wriT y).size ≤ 200002 := by
  have h1 := ito_len h.1
  have h2 := quo_size y.t
  have h3 := h.2
  unfold wriT
  split
  · omega
  · split <;> omega
/-- May it be a token? -/
def rigB (y : Yl) : Bool := !bsEq (wriT y) ⟨#[]⟩ && !(decide (y.k = 3) && !bsEq y.t ⟨#[]⟩) && (match (bs (wriT y))[0]? with
  | some c => isP (c.toNat : Int) && !decide ((c.toNat : Int) = 32)
  | none => false) && decide ((firT (wriT y)).2.2 = 0) && decide ((firT (wriT y)).2.1 = ((wriT y).size : Int)) && decide ((firT (wriT y)).1.1 = y.k) && bsEq (firT (wriT y)).1.2.1 y.t && decide ((firT (wriT y)).1.2.2 = y.n)
theorem bs_ne {s : ByteArray} (h : ¬ bs s = []) : 1 ≤ s.size := by
  have := bs_len s
  cases hb : bs s with
  | nil => exact absurd hb h
  | cons a l => rw [hb] at this; simp at this; omega
theorem rig_a {y : Yl} (h : bs (wriT y) = []) : rigB y = false := by simp [rigB, bsEq_n, h]
theorem rig_b {y : Yl} (h : y.k = 3) (h2 : ¬ bs y.t = []) : rigB y = false := by simp [rigB, bsEq_n, h, h2]
theorem rig_c {y : Yl} {c : UInt8} (hc : (bs (wriT y))[0]? = some c) (h : isP (c.toNat : Int) = false ∨ (c.toNat : Int) = 32) : rigB y = false := by
  unfold rigB; rw [hc]
  rcases h with h | h <;> simp [h]
theorem rig_d {y : Yl} {c : UInt8} (h : ¬ bs (wriT y) = []) (h2 : ¬ y.k = 3 ∨ bs y.t = []) (hc : (bs (wriT y))[0]? = some c) (h3 : isP (c.toNat : Int) = true) (h4 : ¬ (c.toNat : Int) = 32) :
    rigB y = (decide ((firT (wriT y)).2.2 = 0) && decide ((firT (wriT y)).2.1 = ((wriT y).size : Int)) && decide ((firT (wriT y)).1.1 = y.k) && bsEq (firT (wriT y)).1.2.1 y.t && decide ((firT (wriT y)).1.2.2 = y.n)) := by
  unfold rigB; rw [hc, bsEq_n, bsEq_n]
  rcases h2 with h2 | h2 <;> simp [h, h2, h3, h4]
set_option maxHeartbeats 4000000 in
set_option maxRecDepth 20000 in
theorem right_X (y : Yl) (hy : TokIn y) : XMeets Tryz.prog 21 [.agg (tokC y)] (.p (.v (.bool (rigB y))) (nlv _)) := by
  refine XMeets.of_X tabX_ok (avs := [.ag [.p (.v (.int .i64 (y.k))) (nlv _), .p (.v (.string (y.t))) (nlv _), .p (.v (.int .i64 (y.n))) (nlv _), .p (.v (.int .i64 (y.a))) (nlv _), .p (.v (.int .i64 (y.z))) (nlv _)]]) [(0, .ag [.p (.v (.int .i64 (y.k))) (nlv _), .p (.v (.string (y.t))) (nlv _), .p (.v (.int .i64 (y.n))) (nlv _), .p (.v (.int .i64 (y.a))) (nlv _), .p (.v (.int .i64 (y.z))) (nlv _)])] (by kernel_rfl) Tryz.func21 rfl (by simp [PuL, Pu, tokC]) (by simp [untagL, untag, tokC, XV.den, XV.denL]) rfl rfl ?_
  intro B w0
  have hws := wri_size hy
  conv => whnf
  refine .ct ?_
  conv => whnf
  refine CallG.mk (written_X y hy) rfl ?_
  conv => whnf
  refine bS (fun hc1 => ?_) (fun hc1 => ?_)
  · skip
    try simp only [bls] at hc1
    conv => whnf
    refine bT ((bsEq_n _).trans (decide_eq_true (by assumption))) ?_
    conv => whnf
    refine bT ((bsEq_n _).trans (decide_eq_true (by assumption))) ?_
    conv => whnf
    refine bT ((bsEq_n _).trans (decide_eq_true (by assumption))) ?_
    conv => whnf
    refine bT ((bsEq_n _).trans (decide_eq_true (by assumption))) ?_
    conv => whnf
    refine bT ((bsEq_n _).trans (decide_eq_true (by assumption))) ?_
    conv => whnf
    refine FinG.mk none ?_ (by rintro _ ⟨⟩)
    simp only [outs, List.length_map, List.length_append, List.length_take, List.length_drop, List.length_cons, List.length_nil]
    rw [rig_a (by assumption)]
  · skip
    try simp only [bls] at hc1
    conv => whnf
    refine bF ((bsEq_n _).trans (decide_eq_false (by assumption))) ?_
    conv => whnf
    refine bF ((bsEq_n _).trans (decide_eq_false (by assumption))) ?_
    conv => whnf
    refine bF ((bsEq_n _).trans (decide_eq_false (by assumption))) ?_
    conv => whnf
    refine bS (fun hc2 => ?_) (fun hc2 => ?_)
    · skip
      try simp only [bls] at hc2
      conv => whnf
      refine bT (decide_eq_true (by omega)) ?_
      conv => whnf
      refine bT (decide_eq_true (by omega)) ?_
      conv => whnf
      refine bF ((bsEq_n _).trans (decide_eq_false (by assumption))) ?_
      conv => whnf
      refine bT (decide_eq_true (by omega)) ?_
      conv => whnf
      refine bF ((bsEq_n _).trans (decide_eq_false (by assumption))) ?_
      conv => whnf
      refine bS (fun hc3 => ?_) (fun hc3 => ?_)
      · skip
        try simp only [bls] at hc3
        conv => whnf
        refine FinG.mk none ?_ (by rintro _ ⟨⟩)
        simp only [outs, List.length_map, List.length_append, List.length_take, List.length_drop, List.length_cons, List.length_nil]
        rw [rig_b (by assumption) (by assumption)]
      · skip
        try simp only [bls] at hc3
        conv => whnf
        refine str_ex 0 rfl (bs_ne (by assumption)) ?_; intro c hq hq0 hq1
        conv => whnf
        refine .ct ?_
        conv => whnf
        refine CallG.mk (printed_X _) rfl ?_
        conv => whnf
        refine bS (fun hc4 => ?_) (fun hc4 => ?_)
        · skip
          try simp only [bls] at hc4
          conv => whnf
          refine bT (notT (by assumption)) ?_
          conv => whnf
          refine bT (notT (by assumption)) ?_
          conv => whnf
          refine FinG.mk none ?_ (by rintro _ ⟨⟩)
          simp only [outs, List.length_map, List.length_append, List.length_take, List.length_drop, List.length_cons, List.length_nil]
          rw [rig_c hq (.inl (by assumption))]
        · skip
          try simp only [bls] at hc4
          conv => whnf
          refine bF (notF (by assumption)) ?_
          conv => whnf
          refine bF (notF (by assumption)) ?_
          conv => whnf
          refine bS (fun hc5 => ?_) (fun hc5 => ?_)
          · skip
            try simp only [bls] at hc5
            conv => whnf
            refine FinG.mk none ?_ (by rintro _ ⟨⟩)
            simp only [outs, List.length_map, List.length_append, List.length_take, List.length_drop, List.length_cons, List.length_nil]
            rw [rig_c hq (.inr (by assumption))]
          · skip
            try simp only [bls] at hc5
            conv => whnf
            refine .ct ?_
            conv => whnf
            refine CallG.mk (first_X (wriT y) (by omega) (bs_ne (by assumption))) rfl ?_
            conv => whnf
            refine bS (fun hc6 => ?_) (fun hc6 => ?_)
            · skip
              try simp only [bls] at hc6
              conv => whnf
              refine bT (decide_eq_true (by omega)) ?_
              conv => whnf
              refine bT (decide_eq_true (by omega)) ?_
              conv => whnf
              refine bT (decide_eq_true (by omega)) ?_
              conv => whnf
              refine bT (decide_eq_true (by omega)) ?_
              conv => whnf
              refine bS (fun hc7 => ?_) (fun hc7 => ?_)
              · skip
                try simp only [bls] at hc7
                conv => whnf
                refine bT (decide_eq_true (by omega)) ?_
                conv => whnf
                refine bT (decide_eq_true (by omega)) ?_
                conv => whnf
                refine bT (decide_eq_true (by omega)) ?_
                conv => whnf
                refine bT (decide_eq_true (by omega)) ?_
                conv => whnf
                refine bT (decide_eq_true (by omega)) ?_
                conv => whnf
                refine bS (fun hc8 => ?_) (fun hc8 => ?_)
                · skip
                  try simp only [bls] at hc8
                  conv => whnf
                  refine bT (decide_eq_true (by omega)) ?_
                  conv => whnf
                  refine bT (decide_eq_true (by omega)) ?_
                  conv => whnf
                  refine bT (decide_eq_true (by omega)) ?_
                  conv => whnf
                  refine bT (decide_eq_true (by omega)) ?_
                  conv => whnf
                  refine bT (decide_eq_true (by omega)) ?_
                  conv => whnf
                  refine bS (fun hc9 => ?_) (fun hc9 => ?_)
                  · skip
                    try simp only [bls] at hc9
                    conv => whnf
                    refine bT ((bsEq_t _ _).mpr (by assumption)) ?_
                    conv => whnf
                    refine bT ((bsEq_t _ _).mpr (by assumption)) ?_
                    conv => whnf
                    refine bT ((bsEq_t _ _).mpr (by assumption)) ?_
                    conv => whnf
                    refine bT ((bsEq_t _ _).mpr (by assumption)) ?_
                    conv => whnf
                    refine bT ((bsEq_t _ _).mpr (by assumption)) ?_
                    conv => whnf
                    refine FinG.mk none ?_ (by rintro _ ⟨⟩)
                    simp only [outs, List.length_map, List.length_append, List.length_take, List.length_drop, List.length_cons, List.length_nil]
                    rw [rig_d (by assumption) (.inr (by assumption)) hq (by assumption) (by assumption)]
                    simp_all [bsEq]
                  · skip
                    try simp only [bls] at hc9
                    conv => whnf
                    refine bF ((bsEq_f _ _).mpr (by assumption)) ?_
                    conv => whnf
                    refine bF ((bsEq_f _ _).mpr (by assumption)) ?_
                    conv => whnf
                    refine bF ((bsEq_f _ _).mpr (by assumption)) ?_
                    conv => whnf
                    refine bF ((bsEq_f _ _).mpr (by assumption)) ?_
                    conv => whnf
                    refine bF ((bsEq_f _ _).mpr (by assumption)) ?_
                    conv => whnf
                    refine FinG.mk none ?_ (by rintro _ ⟨⟩)
                    simp only [outs, List.length_map, List.length_append, List.length_take, List.length_drop, List.length_cons, List.length_nil]
                    rw [rig_d (by assumption) (.inr (by assumption)) hq (by assumption) (by assumption)]
                    simp_all [bsEq]
                · skip
                  try simp only [bls] at hc8
                  conv => whnf
                  refine bF (decide_eq_false (by omega)) ?_
                  conv => whnf
                  refine bF (decide_eq_false (by omega)) ?_
                  conv => whnf
                  refine bF (decide_eq_false (by omega)) ?_
                  conv => whnf
                  refine bF (decide_eq_false (by omega)) ?_
                  conv => whnf
                  refine bF (decide_eq_false (by omega)) ?_
                  conv => whnf
                  refine FinG.mk none ?_ (by rintro _ ⟨⟩)
                  simp only [outs, List.length_map, List.length_append, List.length_take, List.length_drop, List.length_cons, List.length_nil]
                  rw [rig_d (by assumption) (.inr (by assumption)) hq (by assumption) (by assumption)]
                  simp_all [bsEq]
              · skip
                try simp only [bls] at hc7
                conv => whnf
                refine bF (decide_eq_false (by omega)) ?_
                conv => whnf
                refine bF (decide_eq_false (by omega)) ?_
                conv => whnf
                refine bF (decide_eq_false (by omega)) ?_
                conv => whnf
                refine bF (decide_eq_false (by omega)) ?_
                conv => whnf
                refine bF (decide_eq_false (by omega)) ?_
                conv => whnf
                refine FinG.mk none ?_ (by rintro _ ⟨⟩)
                simp only [outs, List.length_map, List.length_append, List.length_take, List.length_drop, List.length_cons, List.length_nil]
                rw [rig_d (by assumption) (.inr (by assumption)) hq (by assumption) (by assumption)]
                simp_all [bsEq]
            · skip
              try simp only [bls] at hc6
              conv => whnf
              refine bF (decide_eq_false (by omega)) ?_
              conv => whnf
              refine bF (decide_eq_false (by omega)) ?_
              conv => whnf
              refine bF (decide_eq_false (by omega)) ?_
              conv => whnf
              refine bF (decide_eq_false (by omega)) ?_
              conv => whnf
              refine FinG.mk none ?_ (by rintro _ ⟨⟩)
              simp only [outs, List.length_map, List.length_append, List.length_take, List.length_drop, List.length_cons, List.length_nil]
              rw [rig_d (by assumption) (.inr (by assumption)) hq (by assumption) (by assumption)]
              simp_all [bsEq]
    · skip
      try simp only [bls] at hc2
      conv => whnf
      refine bF (decide_eq_false (by omega)) ?_
      conv => whnf
      refine bF (decide_eq_false (by omega)) ?_
      conv => whnf
      refine bF ((bsEq_n _).trans (decide_eq_false (by assumption))) ?_
      conv => whnf
      refine bF (decide_eq_false (by omega)) ?_
      conv => whnf
      refine bF ((bsEq_n _).trans (decide_eq_false (by assumption))) ?_
      conv => whnf
      refine str_ex 0 rfl (bs_ne (by assumption)) ?_; intro c hq hq0 hq1
      conv => whnf
      refine .ct ?_
      conv => whnf
      refine CallG.mk (printed_X _) rfl ?_
      conv => whnf
      refine bS (fun hc10 => ?_) (fun hc10 => ?_)
      · skip
        try simp only [bls] at hc10
        conv => whnf
        refine bT (notT (by assumption)) ?_
        conv => whnf
        refine bT (notT (by assumption)) ?_
        conv => whnf
        refine FinG.mk none ?_ (by rintro _ ⟨⟩)
        simp only [outs, List.length_map, List.length_append, List.length_take, List.length_drop, List.length_cons, List.length_nil]
        rw [rig_c hq (.inl (by assumption))]
      · skip
        try simp only [bls] at hc10
        conv => whnf
        refine bF (notF (by assumption)) ?_
        conv => whnf
        refine bF (notF (by assumption)) ?_
        conv => whnf
        refine bS (fun hc11 => ?_) (fun hc11 => ?_)
        · skip
          try simp only [bls] at hc11
          conv => whnf
          refine FinG.mk none ?_ (by rintro _ ⟨⟩)
          simp only [outs, List.length_map, List.length_append, List.length_take, List.length_drop, List.length_cons, List.length_nil]
          rw [rig_c hq (.inr (by assumption))]
        · skip
          try simp only [bls] at hc11
          conv => whnf
          refine .ct ?_
          conv => whnf
          refine CallG.mk (first_X (wriT y) (by omega) (bs_ne (by assumption))) rfl ?_
          conv => whnf
          refine bS (fun hc12 => ?_) (fun hc12 => ?_)
          · skip
            try simp only [bls] at hc12
            conv => whnf
            refine bT (decide_eq_true (by omega)) ?_
            conv => whnf
            refine bT (decide_eq_true (by omega)) ?_
            conv => whnf
            refine bT (decide_eq_true (by omega)) ?_
            conv => whnf
            refine bT (decide_eq_true (by omega)) ?_
            conv => whnf
            refine bS (fun hc13 => ?_) (fun hc13 => ?_)
            · skip
              try simp only [bls] at hc13
              conv => whnf
              refine bT (decide_eq_true (by omega)) ?_
              conv => whnf
              refine bT (decide_eq_true (by omega)) ?_
              conv => whnf
              refine bT (decide_eq_true (by omega)) ?_
              conv => whnf
              refine bT (decide_eq_true (by omega)) ?_
              conv => whnf
              refine bT (decide_eq_true (by omega)) ?_
              conv => whnf
              refine bS (fun hc14 => ?_) (fun hc14 => ?_)
              · skip
                try simp only [bls] at hc14
                conv => whnf
                refine bT (decide_eq_true (by omega)) ?_
                conv => whnf
                refine bT (decide_eq_true (by omega)) ?_
                conv => whnf
                refine bT (decide_eq_true (by omega)) ?_
                conv => whnf
                refine bT (decide_eq_true (by omega)) ?_
                conv => whnf
                refine bT (decide_eq_true (by omega)) ?_
                conv => whnf
                refine bS (fun hc15 => ?_) (fun hc15 => ?_)
                · skip
                  try simp only [bls] at hc15
                  conv => whnf
                  refine bT ((bsEq_t _ _).mpr (by assumption)) ?_
                  conv => whnf
                  refine bT ((bsEq_t _ _).mpr (by assumption)) ?_
                  conv => whnf
                  refine bT ((bsEq_t _ _).mpr (by assumption)) ?_
                  conv => whnf
                  refine bT ((bsEq_t _ _).mpr (by assumption)) ?_
                  conv => whnf
                  refine bT ((bsEq_t _ _).mpr (by assumption)) ?_
                  conv => whnf
                  refine FinG.mk none ?_ (by rintro _ ⟨⟩)
                  simp only [outs, List.length_map, List.length_append, List.length_take, List.length_drop, List.length_cons, List.length_nil]
                  rw [rig_d (by assumption) (.inl (by assumption)) hq (by assumption) (by assumption)]
                  simp_all [bsEq]
                · skip
                  try simp only [bls] at hc15
                  conv => whnf
                  refine bF ((bsEq_f _ _).mpr (by assumption)) ?_
                  conv => whnf
                  refine bF ((bsEq_f _ _).mpr (by assumption)) ?_
                  conv => whnf
                  refine bF ((bsEq_f _ _).mpr (by assumption)) ?_
                  conv => whnf
                  refine bF ((bsEq_f _ _).mpr (by assumption)) ?_
                  conv => whnf
                  refine bF ((bsEq_f _ _).mpr (by assumption)) ?_
                  conv => whnf
                  refine FinG.mk none ?_ (by rintro _ ⟨⟩)
                  simp only [outs, List.length_map, List.length_append, List.length_take, List.length_drop, List.length_cons, List.length_nil]
                  rw [rig_d (by assumption) (.inl (by assumption)) hq (by assumption) (by assumption)]
                  simp_all [bsEq]
              · skip
                try simp only [bls] at hc14
                conv => whnf
                refine bF (decide_eq_false (by omega)) ?_
                conv => whnf
                refine bF (decide_eq_false (by omega)) ?_
                conv => whnf
                refine bF (decide_eq_false (by omega)) ?_
                conv => whnf
                refine bF (decide_eq_false (by omega)) ?_
                conv => whnf
                refine bF (decide_eq_false (by omega)) ?_
                conv => whnf
                refine FinG.mk none ?_ (by rintro _ ⟨⟩)
                simp only [outs, List.length_map, List.length_append, List.length_take, List.length_drop, List.length_cons, List.length_nil]
                rw [rig_d (by assumption) (.inl (by assumption)) hq (by assumption) (by assumption)]
                simp_all [bsEq]
            · skip
              try simp only [bls] at hc13
              conv => whnf
              refine bF (decide_eq_false (by omega)) ?_
              conv => whnf
              refine bF (decide_eq_false (by omega)) ?_
              conv => whnf
              refine bF (decide_eq_false (by omega)) ?_
              conv => whnf
              refine bF (decide_eq_false (by omega)) ?_
              conv => whnf
              refine bF (decide_eq_false (by omega)) ?_
              conv => whnf
              refine FinG.mk none ?_ (by rintro _ ⟨⟩)
              simp only [outs, List.length_map, List.length_append, List.length_take, List.length_drop, List.length_cons, List.length_nil]
              rw [rig_d (by assumption) (.inl (by assumption)) hq (by assumption) (by assumption)]
              simp_all [bsEq]
          · skip
            try simp only [bls] at hc12
            conv => whnf
            refine bF (decide_eq_false (by omega)) ?_
            conv => whnf
            refine bF (decide_eq_false (by omega)) ?_
            conv => whnf
            refine bF (decide_eq_false (by omega)) ?_
            conv => whnf
            refine bF (decide_eq_false (by omega)) ?_
            conv => whnf
            refine FinG.mk none ?_ (by rintro _ ⟨⟩)
            simp only [outs, List.length_map, List.length_append, List.length_take, List.length_drop, List.length_cons, List.length_nil]
            rw [rig_d (by assumption) (.inl (by assumption)) hq (by assumption) (by assumption)]
            simp_all [bsEq]
set_option maxRecDepth 20000 in
theorem check1_X (y : Yl) (hy : TokIn y) : XMeets Tryz.prog 20 [.agg (tokC y)] (.p (.v (.bool (!rigB y))) (nlv _)) := by
  refine XMeets.of_X tabX_ok (avs := [.ag [.p (.v (.int .i64 (y.k))) (nlv _), .p (.v (.string (y.t))) (nlv _), .p (.v (.int .i64 (y.n))) (nlv _), .p (.v (.int .i64 (y.a))) (nlv _), .p (.v (.int .i64 (y.z))) (nlv _)]]) [(0, .ag [.p (.v (.int .i64 (y.k))) (nlv _), .p (.v (.string (y.t))) (nlv _), .p (.v (.int .i64 (y.n))) (nlv _), .p (.v (.int .i64 (y.a))) (nlv _), .p (.v (.int .i64 (y.z))) (nlv _)])] (by kernel_rfl) Tryz.func20 rfl (by simp [PuL, Pu, tokC]) (by simp [untagL, untag, tokC, XV.den, XV.denL]) rfl rfl ?_
  intro B w0
  conv => whnf
  refine .ct ?_
  conv => whnf
  refine CallG.mk (right_X y hy) rfl ?_
  conv => whnf
  refine FinG.mk none ?_ (by rintro _ ⟨⟩)
  simp only [outs, List.length_map, List.length_append, List.length_take, List.length_drop, List.length_cons, List.length_nil]
/-- Which is the first that may not be? -/
def ixR (l : List Yl) : Int := match l.findIdx? fun y => !rigB y with
  | some k => (k : Int)
  | none => -1
def allR (l : List Yl) (k : Nat) : Prop := ∀ y ∈ l.take k, rigB y = true
theorem allR_0 (l : List Yl) : allR l 0 := fun y hy => by simp at hy
theorem allR_s {l : List Yl} {k : Nat} {y : Yl} (h : allR l k) (hy : l[k]? = some y) (hr : rigB y = true) : allR l (k + 1) := fun z hz => by
  rw [List.take_add_one, hy] at hz
  rcases List.mem_append.1 hz with hz | hz
  · exact h z hz
  · simp at hz; subst hz; exact hr
theorem ixR_no {l : List Yl} {k : Nat} (h : allR l k) (hk : l.length ≤ k) : ixR l = -1 := by
  unfold ixR
  have : l.findIdx? (fun y => !rigB y) = none := List.findIdx?_eq_none_iff.2 fun y hy => by simp [h y (by rw [List.take_of_length_le hk]; exact hy)]
  rw [this]
theorem ixR_at {l : List Yl} {k : Nat} {y : Yl} (h : allR l k) (hy : l[k]? = some y) (hr : rigB y = false) : ixR l = (k : Int) := by
  unfold ixR
  obtain ⟨hk, rfl⟩ := List.getElem?_eq_some_iff.1 hy
  have : l.findIdx? (fun y => !rigB y) = some k := List.findIdx?_eq_some_iff_getElem.2 ⟨hk, by simp [hr], fun j hj => by
    have := h l[j] (List.mem_take_iff_getElem.2 ⟨j, by omega, rfl⟩)
    simp [this]⟩
  rw [this]
theorem ixR_b (l : List Yl) : decide (0 ≤ ixR l) = !l.all rigB := by
  unfold ixR
  cases h : l.findIdx? fun y => !rigB y with
  | none =>
    have := List.findIdx?_eq_none_iff.1 h
    rw [List.all_eq_true.2 fun y hy => by simpa using this y hy]; simp
  | some k =>
    obtain ⟨hk, h1, _⟩ := List.findIdx?_eq_some_iff_getElem.1 h
    have : l.all rigB = false := List.all_eq_false.2 ⟨l[k], List.getElem_mem hk, by simpa using h1⟩
    rw [this]; simp
/-- May these be tokens? -/
def chkN (l : List Yl) : Int := if (decide (300 < l.length) || !l.all rigB) = true then 202 else 0
theorem chkN_long {l : List Yl} (h : 300 < l.length) : chkN l = 202 := by unfold chkN; simp [h]
theorem chkN_no {l : List Yl} (h : l.all rigB = false) : chkN l = 202 := by unfold chkN; rw [h]; simp
theorem chkN_ok {l : List Yl} (h : ¬ 300 < l.length) (h2 : l.all rigB = true) : chkN l = 0 := by unfold chkN; rw [h2]; simp [h]
theorem chk_in {l : List Yl} (h : chkN l = 0) : l.length ≤ 300 ∧ l.all rigB = true := by
  unfold chkN at h
  split at h
  · cases h
  · rename_i hh
    simp at hh
    exact ⟨hh.1, List.all_eq_true.2 hh.2⟩
set_option maxRecDepth 20000 in
theorem indexF_X (b : Bool) (l : List Yl) (hl : l.length ≤ 1000000000) (hin : TokInL l) : XMeets Tryz.prog 41 [.sl b (l.map tokC), .fn (.func 20) []] (.p (.v (.int .i64 (ixR l))) (nlv _)) := by
  refine XMeets.of_X tabX_ok (avs := [.p (.sl false (l.map tokC)) (nl_tok _).sl, .fu (.func 20) []]) [(0, .p (.sl false (l.map tokC)) (nl_tok _).sl), (1, .fu (.func 20) [])] (by kernel_rfl) Tryz.func41 rfl (by simp [PuL, Pu, pu_tok]) (by simp [untagL, untag, untag_tok, XV.den, XV.denL]) rfl rfl ?_
  intro B w0
  conv => whnf
  refine XT.loop tabX_ok (Y := Nat) [4, 5, 8, 9, 10, 11, 12, 13, 14, 15, 16, 17, 18] (fun k => [(8, .p (.v (.int .i64 ((k : Int)))) (nlv _))]) (fun k => []) (fun k => k ≤ l.length ∧ allR l k) (fun k => l.length - k) 0 ⟨Nat.zero_le _, allR_0 l⟩ ?_ ?_
  · skip
    refine ⟨?_, ?_, ?_⟩
    · skip
      refine leEnv_app (by kernel_rfl) (by kernel_rfl) ?_
      repeat ((conv => whnf); first | exact True.intro | refine ⟨.rfl, ?_⟩ | refine ⟨.any, ?_⟩ | refine ⟨.nil, ?_⟩ | refine ⟨.int (by first | rfl | omega | (simp only [wrs]; omega)), ?_⟩)
    · skip
      repeat (first | exact LeVs.nil | ((conv => whnf); first | exact True.intro | exact .none | exact .row rfl | refine .cells ?_ | refine ⟨_, _, rfl, .rfl, ?_⟩ | refine ⟨_, _, rfl, .any, ?_⟩ | refine ⟨_, _, rfl, .nil, ?_⟩ | refine ⟨_, _, rfl, .int (by first | rfl | omega | (simp only [wrs]; omega)), ?_⟩ | refine ⟨?_, ?_⟩))
      done
    · skip
      exact LeFr.nil
  · skip
    rintro k ⟨hk, hr⟩
    conv => whnf
    refine bS (fun hc1 => ?_) (fun hc1 => ?_)
    · skip
      try simp only [bls] at hc1
      conv => whnf
      refine IdxG.map _ rfl (by first | omega | (simp only [bls] at *; omega)) ?_; intro y hy hky
      conv => whnf
      refine ⟨rfl, ?_⟩
      conv => whnf
      refine .ct ?_
      conv => whnf
      refine CallG.mk (check1_X _ (hin _ (List.mem_of_getElem? hy))) rfl ?_
      conv => whnf
      refine bS (fun hc2 => ?_) (fun hc2 => ?_)
      · skip
        try simp only [bls] at hc2
        conv => whnf
        refine FinG.mk none ?_ (by rintro _ ⟨⟩)
        simp only [outs, List.length_map, List.length_append, List.length_take, List.length_drop, List.length_cons, List.length_nil]
        rw [ixR_at hr hy (by assumption)]
      · skip
        try simp only [bls] at hc2
        conv => whnf
        refine ⟨(k + 1), ⟨by first | omega | (simp only [List.length_map] at *; omega), allR_s hr hy (by assumption)⟩, (by first | omega | (simp only [List.length_map] at *; omega)), ?_⟩
        refine ⟨?_, ?_, ?_⟩
        · skip
          refine leEnv_app (by kernel_rfl) (by kernel_rfl) ?_
          repeat ((conv => whnf); first | exact True.intro | refine ⟨.rfl, ?_⟩ | refine ⟨.any, ?_⟩ | refine ⟨.nil, ?_⟩ | refine ⟨.int (by first | rfl | omega | (simp only [wrs]; omega)), ?_⟩)
        · skip
          repeat (first | exact LeVs.nil | ((conv => whnf); first | exact True.intro | exact .none | exact .row rfl | refine .cells ?_ | refine ⟨_, _, rfl, .rfl, ?_⟩ | refine ⟨_, _, rfl, .any, ?_⟩ | refine ⟨_, _, rfl, .nil, ?_⟩ | refine ⟨_, _, rfl, .int (by first | rfl | omega | (simp only [wrs]; omega)), ?_⟩ | refine ⟨?_, ?_⟩))
          done
        · skip
          exact LeFr.nil
    · skip
      try simp only [bls] at hc1
      conv => whnf
      refine FinG.mk none ?_ (by rintro _ ⟨⟩)
      simp only [outs, List.length_map, List.length_append, List.length_take, List.length_drop, List.length_cons, List.length_nil]
      rw [ixR_no hr (by first | omega | (simp only [List.length_map] at *; omega))]
set_option maxRecDepth 20000 in
theorem containsF_X (b : Bool) (l : List Yl) (hl : l.length ≤ 1000000000) (hin : TokInL l) : XMeets Tryz.prog 19 [.sl b (l.map tokC), .fn (.func 20) []] (.p (.v (.bool (!l.all rigB))) (nlv _)) := by
  refine XMeets.of_X tabX_ok (avs := [.p (.sl false (l.map tokC)) (nl_tok _).sl, .fu (.func 20) []]) [(0, .p (.sl false (l.map tokC)) (nl_tok _).sl), (1, .fu (.func 20) [])] (by kernel_rfl) Tryz.func19 rfl (by simp [PuL, Pu, pu_tok]) (by simp [untagL, untag, untag_tok, XV.den, XV.denL]) rfl rfl ?_
  intro B w0
  conv => whnf
  refine .ct ?_
  conv => whnf
  refine CallG.mk (indexF_X _ _ (by first | assumption | omega) (by assumption)) rfl ?_
  conv => whnf
  refine FinG.mk none ?_ (by rintro _ ⟨⟩)
  simp only [outs, List.length_map, List.length_append, List.length_take, List.length_drop, List.length_cons, List.length_nil]
  rw [ixR_b]
set_option maxRecDepth 20000 in
theorem check_X (b : Bool) (l : List Yl) (hl : l.length ≤ 1000000000) (hin : TokInL l) : XMeets Tryz.prog 7 [.sl b (l.map tokC)] (.p (.v (.int .i64 (chkN l))) (nlv _)) := by
  refine XMeets.of_X tabX_ok (avs := [.p (.sl false (l.map tokC)) (nl_tok _).sl]) [(0, .p (.sl false (l.map tokC)) (nl_tok _).sl)] (by kernel_rfl) Tryz.func7 rfl (by simp [PuL, Pu, pu_tok]) (by simp [untagL, untag, untag_tok, XV.den, XV.denL]) rfl rfl ?_
  intro B w0
  conv => whnf
  refine bS (fun hc1 => ?_) (fun hc1 => ?_)
  · skip
    try simp only [bls] at hc1
    conv => whnf
    refine bT (decide_eq_true (by rw [List.length_map]; omega)) ?_
    conv => whnf
    refine bT (decide_eq_true (by rw [List.length_map]; omega)) ?_
    conv => whnf
    refine FinG.mk none ?_ (by rintro _ ⟨⟩)
    simp only [outs, List.length_map, List.length_append, List.length_take, List.length_drop, List.length_cons, List.length_nil]
    rw [chkN_long (by first | omega | (simp only [List.length_map] at *; omega))]
  · skip
    try simp only [bls] at hc1
    conv => whnf
    refine bF (decide_eq_false (by rw [List.length_map]; omega)) ?_
    conv => whnf
    refine .ct ?_
    conv => whnf
    refine CallG.mk (containsF_X _ _ (by first | assumption | omega) (by assumption)) rfl ?_
    conv => whnf
    refine bF (decide_eq_false (by rw [List.length_map]; omega)) ?_
    conv => whnf
    refine bS (fun hc2 => ?_) (fun hc2 => ?_)
    · skip
      try simp only [bls] at hc2
      conv => whnf
      refine FinG.mk none ?_ (by rintro _ ⟨⟩)
      simp only [outs, List.length_map, List.length_append, List.length_take, List.length_drop, List.length_cons, List.length_nil]
      rw [chkN_no (by assumption)]
    · skip
      try simp only [bls] at hc2
      conv => whnf
      refine FinG.mk none ?_ (by rintro _ ⟨⟩)
      simp only [outs, List.length_map, List.length_append, List.length_take, List.length_drop, List.length_cons, List.length_nil]
      rw [chkN_ok (by first | omega | (simp only [List.length_map] at *; omega)) (by assumption)]
theorem join_len : ∀ (xs : List (List UInt8)) (sep : List UInt8) (M : Nat), (∀ x ∈ xs, x.length ≤ M) → (Lib.join xs sep).length ≤ xs.length * (M + sep.length)
  | [], sep, M, _ => by simp [Lib.join_nil]
  | [x], sep, M, h => by rw [Lib.join_one]; have := h x (by simp); simp; omega
  | x :: y :: l, sep, M, h => by
    have h1 := join_len (y :: l) sep M fun z hz => h z (by simp [hz])
    have h2 := h x (by simp)
    have h3 : Lib.join (x :: y :: l) sep = x ++ (sep ++ Lib.join (y :: l) sep) := by simp [Lib.join, List.intercalate]
    rw [h3]
    simp only [List.length_append, List.length_cons] at h1 ⊢
    rw [Nat.add_mul]; omega
def blS : ByteArray := ⟨#[32]⟩
/-- Tokens as a text. -/
def txtS (l : List Yl) : ByteArray := joinS (l.map wriT) blS
/-- Tokens as a text; why not. -/
def prT (l : List Yl) : ByteArray × Int := if chkN l = 0 then (if 1024 < (txtS l).size then (⟨#[]⟩, 3) else (txtS l, 0)) else (⟨#[]⟩, chkN l)
theorem prT_no {l : List Yl} (h : ¬ chkN l = 0) : prT l = (⟨#[]⟩, chkN l) := by unfold prT; rw [if_neg h]
theorem prT_long {l : List Yl} (h : chkN l = 0) (h2 : 1024 < (txtS l).size) : prT l = (⟨#[]⟩, 3) := by unfold prT; rw [if_pos h, if_pos h2]
theorem prT_ok {l : List Yl} (h : chkN l = 0) (h2 : ¬ 1024 < (txtS l).size) : prT l = (txtS l, 0) := by unfold prT; rw [if_pos h, if_neg h2]
theorem txt_len {l : List Yl} (h : l.length ≤ 300) (hin : TokInL l) : (Lib.join ((l.map wriT).map (·.data.toList)) blS.data.toList).length ≤ 140737488355328 := by
  refine Nat.le_trans (join_len _ _ 200002 fun x hx => ?_) ?_
  · obtain ⟨y, hy, rfl⟩ := List.mem_map.1 hx
    obtain ⟨z, hz, rfl⟩ := List.mem_map.1 hy
    have := wri_size (hin z hz)
    have h2 : (wriT z).data.toList.length = (wriT z).size := Array.length_toList
    rw [h2]; exact this
  · simp [blS]; omega
theorem wri_row (l : List Yl) {k : Nat} {y : Yl} (h : l[k]? = some y) : (l.take (k + 1)).map wriT = (l.take k).map wriT ++ [wriT y] := by
  rw [List.take_add_one, h]; simp
set_option maxRecDepth 20000 in
theorem print_X (b : Bool) (l : List Yl) (hl : l.length ≤ 1000000000) (hin : TokInL l) : XMeets Tryz.prog 8 [.sl b (l.map tokC)] (.tu [.p (.v (.string ((prT l).1))) (nlv _), .p (.v (.int .i64 ((prT l).2))) (nlv _)]) := by
  refine XMeets.of_X tabX_ok (avs := [.p (.sl false (l.map tokC)) (nl_tok _).sl]) [(0, .p (.sl false (l.map tokC)) (nl_tok _).sl)] (by kernel_rfl) Tryz.func8 rfl (by simp [PuL, Pu, pu_tok]) (by simp [untagL, untag, untag_tok, XV.den, XV.denL]) rfl rfl ?_
  intro B w0
  conv => whnf
  refine .ct ?_
  conv => whnf
  refine CallG.mk (check_X _ _ (by first | assumption | omega) (by assumption)) rfl ?_
  conv => whnf
  refine bS (fun hc1 => ?_) (fun hc1 => ?_)
  · skip
    try simp only [bls] at hc1
    conv => whnf
    refine FinG.mk none ?_ (by rintro _ ⟨⟩)
    simp only [outs, List.length_map, List.length_append, List.length_take, List.length_drop, List.length_cons, List.length_nil]
    rw [prT_no (by assumption)]
    simp
  · skip
    try simp only [bls] at hc1
    conv => whnf
    refine XT.nilr 5 9 1 rfl rfl ?_
    conv => whnf
    refine XT.loop tabX_ok (Y := Nat) [5, 7, 16, 17, 18, 19, 20, 21, 22, 23, 24, 25] (fun k => [(16, .p (.v (.int .i64 ((k : Int)))) (nlv _)), (5, .row 0)]) (fun k => [(0, .row 9 1 (((l.take k).map wriT).map st1) (nl_st _))]) (fun k => k ≤ l.length) (fun k => l.length - k) 0 (Nat.zero_le _) ?_ ?_
    · skip
      refine ⟨?_, ?_, ?_⟩
      · skip
        refine leEnv_app (by kernel_rfl) (by kernel_rfl) ?_
        repeat ((conv => whnf); first | exact True.intro | refine ⟨.rfl, ?_⟩ | refine ⟨.any, ?_⟩ | refine ⟨.nil, ?_⟩ | refine ⟨.int (by first | rfl | omega | (simp only [wrs]; omega)), ?_⟩)
      · skip
        repeat (first | exact LeVs.nil | ((conv => whnf); first | exact True.intro | exact .none | exact .row rfl | refine .cells ?_ | refine ⟨_, _, rfl, .rfl, ?_⟩ | refine ⟨_, _, rfl, .any, ?_⟩ | refine ⟨_, _, rfl, .nil, ?_⟩ | refine ⟨_, _, rfl, .int (by first | rfl | omega | (simp only [wrs]; omega)), ?_⟩ | refine ⟨?_, ?_⟩))
        done
      · skip
        exact LeFr.nil
    · skip
      rintro k hk
      have hch := chk_in (by omega)
      conv => whnf
      refine bS (fun hc2 => ?_) (fun hc2 => ?_)
      · skip
        try simp only [bls] at hc2
        conv => whnf
        refine IdxG.map _ rfl (by first | omega | (simp only [bls] at *; omega)) ?_; intro y hy hky
        conv => whnf
        refine ⟨rfl, ?_⟩
        conv => whnf
        refine .ct ?_
        conv => whnf
        refine CallG.mk (written_X ⟨y.k, y.t, y.n, y.a, y.z, 0⟩ (hin y (List.mem_of_getElem? hy))) rfl ?_
        conv => whnf
        refine ⟨ApOk.lit rfl, ?_⟩
        conv => whnf
        refine ⟨by simp only [List.length_map, List.length_take, List.length_cons, List.length_nil]; omega, ?_⟩
        conv => whnf
        refine ⟨(k + 1), (by first | omega | (simp only [List.length_map] at *; omega) : k + 1 ≤ l.length), (by first | omega | (simp only [List.length_map] at *; omega)), ?_⟩
        refine ⟨?_, ?_, ?_⟩
        · skip
          refine leEnv_app (by kernel_rfl) (by kernel_rfl) ?_
          repeat ((conv => whnf); first | exact True.intro | refine ⟨.rfl, ?_⟩ | refine ⟨.any, ?_⟩ | refine ⟨.nil, ?_⟩ | refine ⟨.int (by first | rfl | omega | (simp only [wrs]; omega)), ?_⟩)
        · skip
          repeat (first | exact LeVs.nil | ((conv => whnf); first | exact True.intro | exact .none | exact .row rfl | exact .row ((by rw [wri_row l hy, List.map_append]; rfl)) | refine .cells ?_ | refine ⟨_, _, rfl, .rfl, ?_⟩ | refine ⟨_, _, rfl, .any, ?_⟩ | refine ⟨_, _, rfl, .nil, ?_⟩ | refine ⟨_, _, rfl, .int (by first | rfl | omega | (simp only [wrs]; omega)), ?_⟩ | refine ⟨?_, ?_⟩))
          done
        · skip
          exact LeFr.nil
      · skip
        try simp only [bls] at hc2
        conv => whnf
        refine .wr (WCall.join (l := (l.take k).map wriT) (u := txtS l) (by unfold txtS blS; rw [List.take_of_length_le (by first | omega | (simp only [List.length_map] at *; omega))]) rfl (by simp only [List.length_map, List.length_take]; omega) (by rw [List.take_of_length_le (by first | omega | (simp only [List.length_map] at *; omega))]; exact txt_len (by omega) hin) ?_)
        conv => whnf
        refine bS (fun hc3 => ?_) (fun hc3 => ?_)
        · skip
          try simp only [bls] at hc3
          conv => whnf
          refine FinG.mk none ?_ (by rintro _ ⟨⟩)
          simp only [outs, List.length_map, List.length_append, List.length_take, List.length_drop, List.length_cons, List.length_nil]
          rw [prT_long (by assumption) (by omega)]
          simp
        · skip
          try simp only [bls] at hc3
          conv => whnf
          refine FinG.mk none ?_ (by rintro _ ⟨⟩)
          simp only [outs, List.length_map, List.length_append, List.length_take, List.length_drop, List.length_cons, List.length_nil]
          rw [prT_ok (by assumption) (by omega)]
          simp
end Go.Proofs.YtekpmlfcmnlmiaaGreatDoor

namespace Go.Proofs.YtekpmlfcmnlmiaaGreatDoor
open Go.RowKit
set_option linter.unusedVariables false
set_option linter.unusedSimpArgs false
set_option maxRecDepth 20000
/-- Are they the same tokens, but for their places? -/
def smeB (x y : Yl) : Bool := decide (x.k = y.k) && bsEq x.t y.t && decide (x.n = y.n)
def smeL : List Yl → List Yl → Bool
  | [], [] => true
  | x :: l, y :: m => smeB x y && smeL l m
  | _, _ => false
theorem smeL_len : ∀ {l m : List Yl}, smeL l m = true → l.length = m.length
  | [], [], _ => rfl
  | x :: l, y :: m, h => by simp only [smeL, Bool.and_eq_true] at h; simp [smeL_len h.2]
  | [], y :: m, h => by simp [smeL] at h
  | x :: l, [], h => by simp [smeL] at h
def smeK (l m : List Yl) (k : Nat) : Prop := ∀ j x y, j < k → l[j]? = some x → m[j]? = some y → smeB x y = true
theorem smeK_0 (l m : List Yl) : smeK l m 0 := fun j x y hj => by omega
theorem smeK_s {l m : List Yl} {k : Nat} {x y : Yl} (h : smeK l m k) (hx : l[k]? = some x) (hy : m[k]? = some y) (he : smeB x y = true) : smeK l m (k + 1) := fun j a b hj ha hb => by
  rcases Nat.lt_succ_iff_lt_or_eq.1 hj with h1 | rfl
  · exact h j a b h1 ha hb
  · rw [hx] at ha; rw [hy] at hb; cases ha; cases hb; exact he
theorem smeL_yes : ∀ {l m : List Yl}, l.length = m.length → smeK l m l.length → smeL l m = true
  | [], [], _, _ => rfl
  | x :: l, y :: m, hl, h => by
    simp only [smeL, Bool.and_eq_true]
    exact ⟨h 0 x y (by simp) rfl rfl, smeL_yes (by simpa using hl) fun j a b hj ha hb => h (j + 1) a b (by simp; omega) (by simpa using ha) (by simpa using hb)⟩
  | [], y :: m, hl, _ => by simp at hl
  | x :: l, [], hl, _ => by simp at hl
theorem smeL_at : ∀ {l m : List Yl} {k : Nat} {x y : Yl}, smeL l m = true → l[k]? = some x → m[k]? = some y → smeB x y = true
  | [], _, k, x, y, _, hx, _ => by simp at hx
  | a :: l, [], k, x, y, h, _, _ => by simp [smeL] at h
  | a :: l, b :: m, 0, x, y, h, hx, hy => by simp only [smeL, Bool.and_eq_true] at h; simp at hx hy; subst hx hy; exact h.1
  | a :: l, b :: m, k + 1, x, y, h, hx, hy => by simp only [smeL, Bool.and_eq_true] at h; exact smeL_at h.2 (by simpa using hx) (by simpa using hy)
theorem smeL_no {l m : List Yl} (h : ¬ l.length = m.length) : smeL l m = false := by
  cases hh : smeL l m with
  | false => rfl
  | true => exact absurd (smeL_len hh) h
theorem smeL_ne {l m : List Yl} {k : Nat} {x y : Yl} (hx : l[k]? = some x) (hy : m[k]? = some y) (he : smeB x y = false) : smeL l m = false := by
  cases hh : smeL l m with
  | false => rfl
  | true => rw [smeL_at hh hx hy] at he; cases he
set_option maxRecDepth 20000 in
theorem same1_X (x y : Yl) : XMeets Tryz.prog 25 [.agg (tokC x), .agg (tokC y)] (.p (.v (.bool (smeB x y))) (nlv _)) := by
  refine XMeets.of_X tabX_ok (avs := [.ag [.p (.v (.int .i64 (x.k))) (nlv _), .p (.v (.string (x.t))) (nlv _), .p (.v (.int .i64 (x.n))) (nlv _), .p (.v (.int .i64 (x.a))) (nlv _), .p (.v (.int .i64 (x.z))) (nlv _)], .ag [.p (.v (.int .i64 (y.k))) (nlv _), .p (.v (.string (y.t))) (nlv _), .p (.v (.int .i64 (y.n))) (nlv _), .p (.v (.int .i64 (y.a))) (nlv _), .p (.v (.int .i64 (y.z))) (nlv _)]]) [(0, .ag [.p (.v (.int .i64 (x.k))) (nlv _), .p (.v (.string (x.t))) (nlv _), .p (.v (.int .i64 (x.n))) (nlv _), .p (.v (.int .i64 (x.a))) (nlv _), .p (.v (.int .i64 (x.z))) (nlv _)]), (1, .ag [.p (.v (.int .i64 (y.k))) (nlv _), .p (.v (.string (y.t))) (nlv _), .p (.v (.int .i64 (y.n))) (nlv _), .p (.v (.int .i64 (y.a))) (nlv _), .p (.v (.int .i64 (y.z))) (nlv _)])] (by kernel_rfl) Tryz.func25 rfl (by simp [PuL, Pu, tokC]) (by simp [untagL, untag, tokC, XV.den, XV.denL]) rfl rfl ?_
  intro B w0
  conv => whnf
  refine bS (fun hc1 => ?_) (fun hc1 => ?_)
  · skip
    try simp only [bls] at hc1
    conv => whnf
    refine bT (decide_eq_true (by omega)) ?_
    conv => whnf
    refine bT (decide_eq_true (by omega)) ?_
    conv => whnf
    refine bT (decide_eq_true (by omega)) ?_
    conv => whnf
    refine bT (decide_eq_true (by omega)) ?_
    conv => whnf
    refine bT (decide_eq_true (by omega)) ?_
    conv => whnf
    refine bS (fun hc2 => ?_) (fun hc2 => ?_)
    · skip
      try simp only [bls] at hc2
      conv => whnf
      refine bT ((bsEq_t _ _).mpr (by assumption)) ?_
      conv => whnf
      refine bT ((bsEq_t _ _).mpr (by assumption)) ?_
      conv => whnf
      refine bT ((bsEq_t _ _).mpr (by assumption)) ?_
      conv => whnf
      refine bT ((bsEq_t _ _).mpr (by assumption)) ?_
      conv => whnf
      refine bT ((bsEq_t _ _).mpr (by assumption)) ?_
      conv => whnf
      refine FinG.mk none ?_ (by rintro _ ⟨⟩)
      simp only [outs, List.length_map, List.length_append, List.length_take, List.length_drop, List.length_cons, List.length_nil]
      simp_all [smeB, bsEq]
    · skip
      try simp only [bls] at hc2
      conv => whnf
      refine bF ((bsEq_f _ _).mpr (by assumption)) ?_
      conv => whnf
      refine bF ((bsEq_f _ _).mpr (by assumption)) ?_
      conv => whnf
      refine bF ((bsEq_f _ _).mpr (by assumption)) ?_
      conv => whnf
      refine bF ((bsEq_f _ _).mpr (by assumption)) ?_
      conv => whnf
      refine bF ((bsEq_f _ _).mpr (by assumption)) ?_
      conv => whnf
      refine FinG.mk none ?_ (by rintro _ ⟨⟩)
      simp only [outs, List.length_map, List.length_append, List.length_take, List.length_drop, List.length_cons, List.length_nil]
      simp_all [smeB, bsEq]
  · skip
    try simp only [bls] at hc1
    conv => whnf
    refine bF (decide_eq_false (by omega)) ?_
    conv => whnf
    refine bF (decide_eq_false (by omega)) ?_
    conv => whnf
    refine bF (decide_eq_false (by omega)) ?_
    conv => whnf
    refine bF (decide_eq_false (by omega)) ?_
    conv => whnf
    refine bF (decide_eq_false (by omega)) ?_
    conv => whnf
    refine FinG.mk none ?_ (by rintro _ ⟨⟩)
    simp only [outs, List.length_map, List.length_append, List.length_take, List.length_drop, List.length_cons, List.length_nil]
    simp_all [smeB, bsEq]
set_option maxRecDepth 20000 in
theorem equalF_X (b1 b2 : Bool) (l m : List Yl) (hl : l.length ≤ 1000000000) : XMeets Tryz.prog 24 [.sl b1 (l.map tokC), .sl b2 (m.map tokC), .fn (.func 25) []] (.p (.v (.bool (smeL l m))) (nlv _)) := by
  refine XMeets.of_X tabX_ok (avs := [.p (.sl false (l.map tokC)) (nl_tok _).sl, .p (.sl false (m.map tokC)) (nl_tok _).sl, .fu (.func 25) []]) [(0, .p (.sl false (l.map tokC)) (nl_tok _).sl), (1, .p (.sl false (m.map tokC)) (nl_tok _).sl), (2, .fu (.func 25) [])] (by kernel_rfl) Tryz.func24 rfl (by simp [PuL, Pu, pu_tok]) (by simp [untagL, untag, untag_tok, XV.den, XV.denL]) rfl rfl ?_
  intro B w0
  conv => whnf
  refine bS (fun hc1 => ?_) (fun hc1 => ?_)
  · skip
    try simp only [bls] at hc1
    conv => whnf
    refine FinG.mk none ?_ (by rintro _ ⟨⟩)
    simp only [outs, List.length_map, List.length_append, List.length_take, List.length_drop, List.length_cons, List.length_nil]
    rw [smeL_no (by omega)]
  · skip
    try simp only [bls] at hc1
    conv => whnf
    refine XT.loop tabX_ok (Y := Nat) [6, 7, 8, 9, 17, 18, 19, 20, 21, 22, 23, 24, 25, 26, 27, 28, 29, 30, 31] (fun k => [(17, .p (.v (.int .i64 ((k : Int)))) (nlv _))]) (fun k => []) (fun k => k ≤ l.length ∧ smeK l m k) (fun k => l.length - k) 0 ⟨Nat.zero_le _, smeK_0 l m⟩ ?_ ?_
    · skip
      refine ⟨?_, ?_, ?_⟩
      · skip
        refine leEnv_app (by kernel_rfl) (by kernel_rfl) ?_
        repeat ((conv => whnf); first | exact True.intro | refine ⟨.rfl, ?_⟩ | refine ⟨.any, ?_⟩ | refine ⟨.nil, ?_⟩ | refine ⟨.int (by first | rfl | omega | (simp only [wrs]; omega)), ?_⟩)
      · skip
        repeat (first | exact LeVs.nil | ((conv => whnf); first | exact True.intro | exact .none | exact .row rfl | refine .cells ?_ | refine ⟨_, _, rfl, .rfl, ?_⟩ | refine ⟨_, _, rfl, .any, ?_⟩ | refine ⟨_, _, rfl, .nil, ?_⟩ | refine ⟨_, _, rfl, .int (by first | rfl | omega | (simp only [wrs]; omega)), ?_⟩ | refine ⟨?_, ?_⟩))
        done
      · skip
        exact LeFr.nil
    · skip
      rintro k ⟨hk, hr⟩
      conv => whnf
      refine bS (fun hc2 => ?_) (fun hc2 => ?_)
      · skip
        try simp only [bls] at hc2
        conv => whnf
        refine IdxG.map (f := tokC) (l := l) k rfl (by first | omega | (simp only [List.length_map] at *; omega)) ?_; intro x hx hkx
        conv => whnf
        refine ⟨rfl, ?_⟩
        conv => whnf
        refine IdxG.map (f := tokC) (l := m) k rfl (by first | omega | (simp only [List.length_map] at *; omega)) ?_; intro y hy hky
        conv => whnf
        refine ⟨rfl, ?_⟩
        conv => whnf
        refine .ct ?_
        conv => whnf
        refine CallG.mk (same1_X x y) rfl ?_
        conv => whnf
        refine bS (fun hc3 => ?_) (fun hc3 => ?_)
        · skip
          try simp only [bls] at hc3
          conv => whnf
          refine FinG.mk none ?_ (by rintro _ ⟨⟩)
          simp only [outs, List.length_map, List.length_append, List.length_take, List.length_drop, List.length_cons, List.length_nil]
          rw [smeL_ne hx hy (by assumption)]
        · skip
          try simp only [bls] at hc3
          conv => whnf
          refine ⟨(k + 1), ⟨by first | omega | (simp only [List.length_map] at *; omega), smeK_s hr hx hy (by assumption)⟩, (by first | omega | (simp only [List.length_map] at *; omega)), ?_⟩
          refine ⟨?_, ?_, ?_⟩
          · skip
            refine leEnv_app (by kernel_rfl) (by kernel_rfl) ?_
            repeat ((conv => whnf); first | exact True.intro | refine ⟨.rfl, ?_⟩ | refine ⟨.any, ?_⟩ | refine ⟨.nil, ?_⟩ | refine ⟨.int (by first | rfl | omega | (simp only [wrs]; omega)), ?_⟩)
          · skip
            repeat (first | exact LeVs.nil | ((conv => whnf); first | exact True.intro | exact .none | exact .row rfl | refine .cells ?_ | refine ⟨_, _, rfl, .rfl, ?_⟩ | refine ⟨_, _, rfl, .any, ?_⟩ | refine ⟨_, _, rfl, .nil, ?_⟩ | refine ⟨_, _, rfl, .int (by first | rfl | omega | (simp only [wrs]; omega)), ?_⟩ | refine ⟨?_, ?_⟩))
            done
          · skip
            exact LeFr.nil
      · skip
        try simp only [bls] at hc2
        conv => whnf
        refine FinG.mk none ?_ (by rintro _ ⟨⟩)
        simp only [outs, List.length_map, List.length_append, List.length_take, List.length_drop, List.length_cons, List.length_nil]
        rw [smeL_yes (by first | omega | (simp only [List.length_map] at *; omega)) ((show k = l.length by first | omega | (simp only [List.length_map] at *; omega)) ▸ hr)]
set_option maxRecDepth 20000 in
theorem same_X (b1 b2 : Bool) (l m : List Yl) (hl : l.length ≤ 1000000000) : XMeets Tryz.prog 9 [.sl b1 (l.map tokC), .sl b2 (m.map tokC)] (.p (.v (.bool (smeL l m))) (nlv _)) := by
  refine XMeets.of_X tabX_ok (avs := [.p (.sl false (l.map tokC)) (nl_tok _).sl, .p (.sl false (m.map tokC)) (nl_tok _).sl]) [(0, .p (.sl false (l.map tokC)) (nl_tok _).sl), (1, .p (.sl false (m.map tokC)) (nl_tok _).sl)] (by kernel_rfl) Tryz.func9 rfl (by simp [PuL, Pu, pu_tok]) (by simp [untagL, untag, untag_tok, XV.den, XV.denL]) rfl rfl ?_
  intro B w0
  conv => whnf
  refine .ct ?_
  conv => whnf
  refine CallG.mk (equalF_X _ _ _ _ (by first | assumption | omega)) rfl ?_
  conv => whnf
  refine FinG.mk none ?_ (by rintro _ ⟨⟩)
  simp only [outs, List.length_map, List.length_append, List.length_take, List.length_drop, List.length_cons, List.length_nil]
def wkS : ByteArray := ⟨#[115, 101, 108, 101, 99, 116, 32, 39, 105, 116, 39, 39, 115, 39, 32, 45, 45, 32, 120, 10, 60, 61, 32, 55]⟩
def wkL : List Yl := [⟨1, ⟨#[83, 69, 76, 69, 67, 84]⟩, 0, 0, 6, 0⟩, ⟨4, ⟨#[105, 116, 39, 115]⟩, 0, 7, 14, 0⟩, ⟨5, ⟨#[60, 61]⟩, 0, 20, 22, 0⟩, ⟨3, ⟨#[]⟩, 7, 23, 24, 0⟩]
def wkP : ByteArray := ⟨#[83, 69, 76, 69, 67, 84, 32, 39, 105, 116, 39, 39, 115, 39, 32, 60, 61, 32, 55]⟩
theorem wk1 : lexT wkS = (wkL, (0, 0)) := by kernel_rfl
theorem wk2 : prT wkL = (wkP, 0) := by kernel_rfl
theorem wk3 : nameB ⟨#[120]⟩ = true := by kernel_rfl
theorem wk4 : nameB ⟨#[66, 121]⟩ = false := by kernel_rfl
theorem wk_in : TokInL wkL := by intro y hy; simp only [wkL, List.mem_cons, List.not_mem_nil, or_false] at hy; rcases hy with rfl | rfl | rfl | rfl <;> exact ⟨by decide, by decide⟩
theorem wkLex : XMeets Tryz.prog 17 [.v (.string wkS)] (.tu [.ow 43 5 (wkL.map tokC) (nl_tok _), .ag [.p (.v (.int .i64 0)) (nlv _), .p (.v (.int .i64 0)) (nlv _)]]) := (lex_X wkS (by decide)).eq (by rw [wk1])
theorem wkPrint (b : Bool) : XMeets Tryz.prog 8 [.sl b (wkL.map tokC)] (.tu [.p (.v (.string wkP)) (nlv _), .p (.v (.int .i64 0)) (nlv _)]) := (print_X b wkL (by decide) wk_in).eq (by rw [wk2])
theorem wkName1 : XMeets Tryz.prog 18 [.v (.string ⟨#[120]⟩)] (.p (.v (.bool true)) (nlv _)) := (name_X _ (by decide)).eq (by rw [wk3])
theorem wkName2 : XMeets Tryz.prog 18 [.v (.string ⟨#[66, 121]⟩)] (.p (.v (.bool false)) (nlv _)) := (name_X _ (by decide)).eq (by rw [wk4])
theorem eqSp_run (x y : Operand) (a b c d : Int) (w : World) : (do eqGuard .eql 39 x y (.agg #[.int .i64 a, .int .i64 b]) (.agg #[.int .i64 c, .int .i64 d]); binOp .eql 39 (.agg #[.int .i64 a, .int .i64 b]) (.agg #[.int .i64 c, .int .i64 d]) : Sem Value).run Tryz.prog w = .ok (.bool (decide (a = c) && decide (b = d))) w := by
  go_simp
  by_cases h1 : a = c <;> by_cases h2 : b = d <;> simp [h1, h2]

set_option maxRecDepth 20000 in
theorem wakes_X  : XMeets Tryz.prog 5 [] (.p (.v (.bool (true))) (nlv _)) := by
  refine XMeets.of_X tabX_ok (avs := []) [] (by kernel_rfl) Tryz.func5 rfl (by simp [PuL, Pu]) (rfl) rfl rfl ?_
  intro B w0
  conv => whnf
  refine .ct ?_
  conv => whnf
  refine CallG.mk (wkLex) rfl ?_
  conv => whnf
  refine .ct ?_
  conv => whnf
  refine CallG.mk (wkPrint _) rfl ?_
  conv => whnf
  refine BinG.mk rfl rfl (eqSp_run _ _ _ _ _ _) ?_
  conv => whnf
  refine ⟨_, rfl, ?_⟩
  conv => whnf
  refine ⟨by simp [wkL]; done, ?_⟩
  conv => whnf
  refine IdxG.mk (c := [_, _, _, _, _]) rfl rfl ?_
  conv => whnf
  refine ⟨_, rfl, ?_⟩
  conv => whnf
  refine ⟨by simp [wkL]; done, ?_⟩
  conv => whnf
  refine IdxG.mk (c := [_, _, _, _, _]) rfl rfl ?_
  conv => whnf
  refine ⟨_, rfl, ?_⟩
  conv => whnf
  refine ⟨by simp [wkL]; done, ?_⟩
  conv => whnf
  refine IdxG.mk (c := [_, _, _, _, _]) rfl rfl ?_
  conv => whnf
  refine ⟨_, rfl, ?_⟩
  conv => whnf
  refine ⟨by simp [wkL]; done, ?_⟩
  conv => whnf
  refine IdxG.mk (c := [_, _, _, _, _]) rfl rfl ?_
  conv => whnf
  refine .ct ?_
  conv => whnf
  refine CallG.mk (wkName1) rfl ?_
  conv => whnf
  refine .ct ?_
  conv => whnf
  refine CallG.mk (wkName2) rfl ?_
  conv => whnf
  refine FinG.mk none ?_ (by rintro _ ⟨⟩)
  simp only [outs, List.length_map, List.length_append, List.length_take, List.length_drop, List.length_cons, List.length_nil]
  simp; done
def qS : ByteArray := ⟨#[63]⟩
/-- The kept words, so many of them spoiled. -/
def spK (k : Nat) : List ByteArray := List.replicate k qS ++ keysL.drop k
/-- A text's beginning. -/
abbrev begS (n : Int) (x : ByteArray) : ByteArray := x.extract 0 (min (x.size : Int) n).toNat
theorem begS_size (n : Int) (hn : 0 ≤ n) (x : ByteArray) : ((begS n x).size : Int) ≤ n := by simp [begS]; omega
attribute [local irreducible] keyN nameB quoS
end Go.Proofs.YtekpmlfcmnlmiaaGreatDoor
