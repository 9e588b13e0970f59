/- Values: bytes stand in the order of the values. No condition. -/
import Derived.Test.YtdcemcobldpcnaaDoorV1
import Derived.Test.YtdcemcobldpcnaaDoorVS
namespace Go.Proofs.YtdcemcobldpcnaaDoor
open Go.RowKit
set_option linter.unusedVariables false
set_option linter.unusedSimpArgs false
set_option maxRecDepth 20000
set_option maxRecDepth 20000 in
theorem bcmp_X (b b2 : Bool) (l l2 : List Int) : XMeets Tryd.prog 31 [.sl b (l.map by1), .sl b2 (l2.map by1)] (.p (.v (.int .i64 (Extern.BytealgCompare.cmp (strOfNums l) (strOfNums l2)))) (nlv _)) := by
  refine XMeets.of_X tabX_ok (avs := [.p (.sl false (l.map by1)) (nl_by1 _).sl, .p (.sl false (l2.map by1)) (nl_by1 _).sl]) [(0, .p (.sl false (l.map by1)) (nl_by1 _).sl), (1, .p (.sl false (l2.map by1)) (nl_by1 _).sl)] (by kernel_rfl) Tryd.func31 rfl (by simp [PuL, Pu, pu_by1]) (by simp only [untagL, untag, ut_by1]; rfl) rfl rfl ?_
  intro B w0
  conv => whnf
  refine .ct ?_
  conv => whnf
  refine CallG.ext cmp_ext ?_
  conv => whnf
  refine FinG.mk none ?_ (by rintro _ ⟨⟩)
  simp only [outs, List.length_map, List.length_append, List.length_take, List.length_drop, List.length_cons, List.length_nil, fr_by1]
set_option maxRecDepth 20000 in
theorem beq_X (b b2 : Bool) (l l2 : List Int) : XMeets Tryd.prog 23 [.sl b (l.map by1), .sl b2 (l2.map by1)] (.p (.v (.bool (bsEq (strOfNums l) (strOfNums l2)))) (nlv _)) := by
  refine XMeets.of_X tabX_ok (avs := [.p (.sl false (l.map by1)) (nl_by1 _).sl, .p (.sl false (l2.map by1)) (nl_by1 _).sl]) [(0, .p (.sl false (l.map by1)) (nl_by1 _).sl), (1, .p (.sl false (l2.map by1)) (nl_by1 _).sl)] (by kernel_rfl) Tryd.func23 rfl (by simp [PuL, Pu, pu_by1]) (by simp only [untagL, untag, ut_by1]; rfl) rfl rfl ?_
  intro B w0
  conv => whnf
  refine ⟨_, rfl, ?_⟩
  conv => whnf
  refine ⟨_, rfl, ?_⟩
  conv => whnf
  refine FinG.mk none ?_ (by rintro _ ⟨⟩)
  simp only [outs, List.length_map, List.length_append, List.length_take, List.length_drop, List.length_cons, List.length_nil, fr_by1]
theorem beqT_X (b b2 : Bool) (l l2 : List Int) (n : Nat) : XMeets Tryd.prog 23 [.sl b ((l.map by1).take n), .sl b2 (l2.map by1)] (.p (.v (.bool (bsEq (strOfNums (l.take n)) (strOfNums l2)))) (nlv _)) := by
  rw [← List.map_take]; exact beq_X _ _ _ _
set_option maxRecDepth 20000 in
theorem pref_X (b b2 : Bool) (l l2 : List Int) : XMeets Tryd.prog 32 [.sl b (l.map by1), .sl b2 (l2.map by1)] (.p (.v (.bool (prefB' l l2))) (nlv _)) := by
  refine XMeets.of_X tabX_ok (avs := [.p (.sl false (l.map by1)) (nl_by1 _).sl, .p (.sl false (l2.map by1)) (nl_by1 _).sl]) [(0, .p (.sl false (l.map by1)) (nl_by1 _).sl), (1, .p (.sl false (l2.map by1)) (nl_by1 _).sl)] (by kernel_rfl) Tryd.func32 rfl (by simp [PuL, Pu, pu_by1]) (by simp only [untagL, untag, ut_by1]; rfl) rfl rfl ?_
  intro B w0
  conv => whnf
  cases hc1 : (decide ((↑(List.map by1 l2).length : Int) ≤ (↑(List.map by1 l).length : Int)))
  · skip
    try simp only [bls] at hc1
    conv => whnf
    refine FinG.mk none ?_ (by rintro _ ⟨⟩)
    simp only [outs, List.length_map, List.length_append, List.length_take, List.length_drop, List.length_cons, List.length_nil, fr_by1]
    simp [prefB']; omega
  · skip
    try simp only [bls] at hc1
    conv => whnf
    refine ⟨_, rfl, ?_⟩
    conv => whnf
    refine ⟨by simp only [bls]; omega, ?_⟩
    conv => whnf
    refine ⟨by simp only [bls]; omega, ?_⟩
    conv => whnf
    refine ⟨len_by1 _, ?_⟩
    conv => whnf
    refine .ct ?_
    conv => whnf
    refine CallG.mk (beqT_X _ _ _ _ _) rfl ?_
    conv => whnf
    refine FinG.mk none ?_ (by rintro _ ⟨⟩)
    simp only [outs, List.length_map, List.length_append, List.length_take, List.length_drop, List.length_cons, List.length_nil, fr_by1]
    simp_all [prefB']
theorem eqV_comm (a b : Val) : eqV a b = eqV b a := by
  cases h : eqV a b
  · cases h2 : eqV b a
    · rfl
    · rw [eqV_t h2, eqV_self] at h; exact h.symm
  · rw [eqV_t h, eqV_self]
theorem sorts_all {a b : Val} (ha : I64 a.n) (hb : I64 b.n) (h1 : checkN a = 0) (h2 : checkN b = 0) : Extern.BytealgCompare.cmp (strOfNums (encV a)) (strOfNums (encV b)) = cmpV a b ∧ (eqV a b = false → prefB' (encV a) (encV b) = false ∧ prefB' (encV b) (encV a) = false) := by
  rw [checkN_0] at h1 h2
  rw [cmp_num (isB1_enc h1) (isB1_enc h2)]
  exact ⟨sorts_cmp h1 h2 ha hb, fun h => ⟨pfree h1 h2 ha hb h, pfree h2 h1 hb ha (by rw [eqV_comm]; exact h)⟩⟩
set_option maxRecDepth 20000 in
theorem lSorts_X (a b : Val) (ha : I64 a.n) (hb : I64 b.n) : XMeets Tryd.prog 8 [valT a, valT b] (.p (.v (.bool true)) (nlv _)) := by
  refine XMeets.of_X tabX_ok (avs := [valX a, valX b]) [(0, valX a), (1, valX b)] (by kernel_rfl) Tryd.func8 rfl (by simp [PuL, Pu, valT]) (rfl) rfl rfl ?_
  intro B w0
  conv => whnf
  refine .ct ?_
  conv => whnf
  refine CallG.mk (wakes_X) rfl ?_
  conv => whnf
  refine .ct ?_
  conv => whnf
  refine CallG.mk (long_X _ [a, b] (Nat.le_of_ble_eq_true rfl)) rfl ?_
  conv => whnf
  cases hc1 : (longB [a, b])
  · skip
    try simp only [bls] at hc1
    conv => whnf
    refine .ct ?_
    conv => whnf
    refine CallG.mk (encode_X _ (by assumption)) rfl ?_
    conv => whnf
    refine .ct ?_
    conv => whnf
    refine CallG.mk (encode_X _ (by assumption)) rfl ?_
    conv => whnf
    cases hc2 : (decide (checkN a = 0))
    · skip
      try simp only [bls] at hc2
      conv => whnf
      refine FinG.mk none ?_ (by rintro _ ⟨⟩)
      simp only [outs, List.length_map, List.length_append, List.length_take, List.length_drop, List.length_cons, List.length_nil, fr_by1, eqV_self]
    · skip
      try simp only [bls] at hc2
      conv => whnf
      cases hc3 : (decide (checkN b = 0))
      · skip
        try simp only [bls] at hc3
        conv => whnf
        refine FinG.mk none ?_ (by rintro _ ⟨⟩)
        simp only [outs, List.length_map, List.length_append, List.length_take, List.length_drop, List.length_cons, List.length_nil, fr_by1, eqV_self]
      · skip
        try simp only [bls] at hc3
        conv => whnf
        refine RegG.par 25 (by kernel_rfl) ?_
        conv => whnf
        refine CallG.mk (bcmp_X _ _ _ _) rfl ?_
        conv => whnf
        refine CallG.mk (compare_X _ _) rfl ?_
        conv => whnf
        cases hc4 : (decide (Extern.BytealgCompare.cmp (strOfNums (encV a)) (strOfNums (encV b)) = cmpV a b))
        · skip
          try simp only [bls] at hc4
          conv => whnf
          refine FinG.mk none ?_ (by rintro _ ⟨⟩)
          simp only [outs, List.length_map, List.length_append, List.length_take, List.length_drop, List.length_cons, List.length_nil, fr_by1, eqV_self]
          exact absurd (sorts_all ha hb (by assumption) (by assumption)).1 (by assumption)
        · skip
          try simp only [bls] at hc4
          conv => whnf
          refine BinG.mk rfl rfl (eqVal_run _ _ _ _ _ _ _ _) ?_
          conv => whnf
          cases hc5 : (eqV { k := a.k, n := a.n, t := a.t } { k := b.k, n := b.n, t := b.t })
          · skip
            try simp only [bls] at hc5
            conv => whnf
            refine CallG.mk (pref_X _ _ _ _) rfl ?_
            conv => whnf
            cases hc6 : (prefB' (encV a) (encV b))
            · skip
              try simp only [bls] at hc6
              conv => whnf
              refine CallG.mk (pref_X _ _ _ _) rfl ?_
              conv => whnf
              refine FinG.mk none ?_ (by rintro _ ⟨⟩)
              simp only [outs, List.length_map, List.length_append, List.length_take, List.length_drop, List.length_cons, List.length_nil, fr_by1, eqV_self]
              rw [((sorts_all ha hb (by assumption) (by assumption)).2 (by assumption)).2]; rfl
            · skip
              try simp only [bls] at hc6
              conv => whnf
              refine FinG.mk none ?_ (by rintro _ ⟨⟩)
              simp only [outs, List.length_map, List.length_append, List.length_take, List.length_drop, List.length_cons, List.length_nil, fr_by1, eqV_self]
              have h9 := ((sorts_all ha hb (by assumption) (by assumption)).2 (by assumption)).1
              simp_all
          · skip
            try simp only [bls] at hc5
            conv => whnf
            refine FinG.mk none ?_ (by rintro _ ⟨⟩)
            simp only [outs, List.length_map, List.length_append, List.length_take, List.length_drop, List.length_cons, List.length_nil, fr_by1, eqV_self]
  · skip
    try simp only [bls] at hc1
    conv => whnf
    refine FinG.mk none ?_ (by rintro _ ⟨⟩)
    simp only [outs, List.length_map, List.length_append, List.length_take, List.length_drop, List.length_cons, List.length_nil, fr_by1, eqV_self]
end Go.Proofs.YtdcemcobldpcnaaDoor
