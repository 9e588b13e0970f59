/- Values: which may be, how they are made, how they stand to one another. No condition. -/
import Derived.Test.YtdcemcobldpcnaaDoorU5
import Derived.Test.YtdcemcobldpcnaaDoorU6
namespace Go.Proofs.YtdcemcobldpcnaaDoor
open Go.RowKit
set_option linter.unusedVariables false
set_option linter.unusedSimpArgs false
set_option maxRecDepth 20000
structure Val where
  k : Int
  n : Int
  t : ByteArray
def Val.Ok (v : Val) : Prop := -9223372036854775808 ≤ v.k ∧ v.k < 9223372036854775808 ∧ -9223372036854775808 ≤ v.n ∧ v.n < 9223372036854775808 ∧ v.t.size ≤ 140737488355328
def valT (v : Val) : TV := .agg [.v (.int .i64 v.k), .v (.int .i64 v.n), .v (.string v.t)]
def valX (v : Val) : XV := .ag [.p (.v (.int .i64 v.k)) (nlv _), .p (.v (.int .i64 v.n)) (nlv _), .p (.v (.string v.t)) (nlv _)]
/-- Which values may be. -/
def rightB (v : Val) : Bool := (decide (v.k = 1) && decide (v.n = 0) && bsEq v.t ⟨#[]⟩) || (decide (v.k = 2) && (decide (v.n = 0) || decide (v.n = 1)) && bsEq v.t ⟨#[]⟩) || (decide (v.k = 3) && bsEq v.t ⟨#[]⟩) || (decide (v.k = 4) && decide (v.n = 0) && decide (v.t.size ≤ 64))
def checkN (v : Val) : Int := if rightB v then 0 else 150
theorem checkN_0 (v : Val) : (checkN v = 0) = (rightB v = true) := by unfold checkN; split <;> simp_all
def i64c (x : Int) : List TV := [.v (.int .i64 x)]
theorem nl_i64 (l : List Int) : NlLL (l.map i64c) := .map fun x _ => .cons (nlv _) .nil
theorem pu_i64 (l : List Int) : PuLL (l.map i64c) := PuLL_map _ _ fun x _ => by simp [i64c, PuL, Pu]
theorem ut_i64 (l : List Int) : untagLL (l.map i64c) = l.map i64c := by
  rw [untagLL_map]; exact List.map_congr_left fun x _ => rfl
theorem bs_size (u : ByteArray) : (bs u).length = u.size := Array.length_toList
theorem bs_ext {a b : ByteArray} (h : bs a = bs b) : a = b := by
  cases a; cases b
  simp only [bs] at h
  congr 1
  exact Array.ext' h
theorem bs_nil : bs { data := #[] } = [] := rfl
/-- The first that is not nought. -/
def orN : List Int → Int
  | [] => 0
  | x :: l => if x = 0 then orN l else x
def cmpI (a b : Int) : Int := if a < b then -1 else if b < a then 1 else 0
def cmpS (a b : List UInt8) : Int := if Op.bytesLess a b then -1 else if a = b then 0 else 1
set_option maxRecDepth 20000 in
theorem check_X (v : Val) : XMeets Tryd.prog 24 [valT v] (.p (.v (.int .i64 (checkN v))) (nlv _)) := by
  refine XMeets.of_X tabX_ok (avs := [valX v]) [(0, valX v)] (by kernel_rfl) Tryd.func24 rfl (by simp [PuL, Pu, valT]) (rfl) rfl rfl ?_
  intro B w0
  conv => whnf
  cases hc1 : (decide (v.k = 1))
  · skip
    try simp only [bls] at hc1
    conv => whnf
    cases hc2 : (decide (v.k = 2))
    · skip
      try simp only [bls] at hc2
      conv => whnf
      cases hc3 : (decide (v.k = 3))
      · skip
        try simp only [bls] at hc3
        conv => whnf
        cases hc4 : (decide (v.k = 4))
        · skip
          try simp only [bls] at hc4
          conv => whnf
          refine FinG.mk none ?_ (by rintro _ ⟨⟩)
          simp only [outs, List.length_map, List.length_append, List.length_take, List.length_drop, List.length_cons, List.length_nil]
          simp_all [checkN, rightB, bsEq_t, bsEq_f, bs_nil]; done
        · skip
          try simp only [bls] at hc4
          conv => whnf
          cases hc5 : (decide (v.n = 0))
          · skip
            try simp only [bls] at hc5
            conv => whnf
            refine FinG.mk none ?_ (by rintro _ ⟨⟩)
            simp only [outs, List.length_map, List.length_append, List.length_take, List.length_drop, List.length_cons, List.length_nil]
            simp_all [checkN, rightB, bsEq_t, bsEq_f, bs_nil]; done
          · skip
            try simp only [bls] at hc5
            conv => whnf
            cases hc6 : (decide ((↑v.t.size : Int) ≤ 64))
            · skip
              try simp only [bls] at hc6
              conv => whnf
              refine FinG.mk none ?_ (by rintro _ ⟨⟩)
              simp only [outs, List.length_map, List.length_append, List.length_take, List.length_drop, List.length_cons, List.length_nil]
              simp_all [checkN, rightB, bsEq_t, bsEq_f, bs_nil]; omega
            · skip
              try simp only [bls] at hc6
              conv => whnf
              refine FinG.mk none ?_ (by rintro _ ⟨⟩)
              simp only [outs, List.length_map, List.length_append, List.length_take, List.length_drop, List.length_cons, List.length_nil]
              simp_all [checkN, rightB, bsEq_t, bsEq_f, bs_nil]; omega
      · skip
        try simp only [bls] at hc3
        conv => whnf
        cases hc7 : (bsEq v.t { data := #[] })
        · skip
          try simp only [bls] at hc7
          conv => whnf
          refine FinG.mk none ?_ (by rintro _ ⟨⟩)
          simp only [outs, List.length_map, List.length_append, List.length_take, List.length_drop, List.length_cons, List.length_nil]
          simp_all [checkN, rightB, bsEq_t, bsEq_f, bs_nil]; done
        · skip
          try simp only [bls] at hc7
          conv => whnf
          refine FinG.mk none ?_ (by rintro _ ⟨⟩)
          simp only [outs, List.length_map, List.length_append, List.length_take, List.length_drop, List.length_cons, List.length_nil]
          simp_all [checkN, rightB, bsEq_t, bsEq_f, bs_nil]; done
    · skip
      try simp only [bls] at hc2
      conv => whnf
      cases hc8 : (decide (v.n = 0))
      · skip
        try simp only [bls] at hc8
        conv => whnf
        cases hc9 : (decide (v.n = 1))
        · skip
          try simp only [bls] at hc9
          conv => whnf
          refine FinG.mk none ?_ (by rintro _ ⟨⟩)
          simp only [outs, List.length_map, List.length_append, List.length_take, List.length_drop, List.length_cons, List.length_nil]
          simp_all [checkN, rightB, bsEq_t, bsEq_f, bs_nil]; done
        · skip
          try simp only [bls] at hc9
          conv => whnf
          cases hc10 : (bsEq v.t { data := #[] })
          · skip
            try simp only [bls] at hc10
            conv => whnf
            refine FinG.mk none ?_ (by rintro _ ⟨⟩)
            simp only [outs, List.length_map, List.length_append, List.length_take, List.length_drop, List.length_cons, List.length_nil]
            simp_all [checkN, rightB, bsEq_t, bsEq_f, bs_nil]; done
          · skip
            try simp only [bls] at hc10
            conv => whnf
            refine FinG.mk none ?_ (by rintro _ ⟨⟩)
            simp only [outs, List.length_map, List.length_append, List.length_take, List.length_drop, List.length_cons, List.length_nil]
            simp_all [checkN, rightB, bsEq_t, bsEq_f, bs_nil]; done
      · skip
        try simp only [bls] at hc8
        conv => whnf
        cases hc11 : (bsEq v.t { data := #[] })
        · skip
          try simp only [bls] at hc11
          conv => whnf
          refine FinG.mk none ?_ (by rintro _ ⟨⟩)
          simp only [outs, List.length_map, List.length_append, List.length_take, List.length_drop, List.length_cons, List.length_nil]
          simp_all [checkN, rightB, bsEq_t, bsEq_f, bs_nil]; done
        · skip
          try simp only [bls] at hc11
          conv => whnf
          refine FinG.mk none ?_ (by rintro _ ⟨⟩)
          simp only [outs, List.length_map, List.length_append, List.length_take, List.length_drop, List.length_cons, List.length_nil]
          simp_all [checkN, rightB, bsEq_t, bsEq_f, bs_nil]; done
  · skip
    try simp only [bls] at hc1
    conv => whnf
    cases hc12 : (decide (v.n = 0))
    · skip
      try simp only [bls] at hc12
      conv => whnf
      refine FinG.mk none ?_ (by rintro _ ⟨⟩)
      simp only [outs, List.length_map, List.length_append, List.length_take, List.length_drop, List.length_cons, List.length_nil]
      simp_all [checkN, rightB, bsEq_t, bsEq_f, bs_nil]; done
    · skip
      try simp only [bls] at hc12
      conv => whnf
      cases hc13 : (bsEq v.t { data := #[] })
      · skip
        try simp only [bls] at hc13
        conv => whnf
        refine FinG.mk none ?_ (by rintro _ ⟨⟩)
        simp only [outs, List.length_map, List.length_append, List.length_take, List.length_drop, List.length_cons, List.length_nil]
        simp_all [checkN, rightB, bsEq_t, bsEq_f, bs_nil]; done
      · skip
        try simp only [bls] at hc13
        conv => whnf
        refine FinG.mk none ?_ (by rintro _ ⟨⟩)
        simp only [outs, List.length_map, List.length_append, List.length_take, List.length_drop, List.length_cons, List.length_nil]
        simp_all [checkN, rightB, bsEq_t, bsEq_f, bs_nil]; done
set_option maxRecDepth 20000 in
theorem right_X (v : Val) : XMeets Tryd.prog 20 [valT v] (.p (.v (.bool (rightB v))) (nlv _)) := by
  refine XMeets.of_X tabX_ok (avs := [valX v]) [(0, valX v)] (by kernel_rfl) Tryd.func20 rfl (by simp [PuL, Pu, valT]) (rfl) rfl rfl ?_
  intro B w0
  conv => whnf
  cases hc1 : (decide (v.k = 1))
  · skip
    try simp only [bls] at hc1
    conv => whnf
    cases hc2 : (decide (v.k = 2))
    · skip
      try simp only [bls] at hc2
      conv => whnf
      cases hc3 : (decide (v.k = 3))
      · skip
        try simp only [bls] at hc3
        conv => whnf
        cases hc4 : (decide (v.k = 4))
        · skip
          try simp only [bls] at hc4
          conv => whnf
          refine FinG.mk none ?_ (by rintro _ ⟨⟩)
          simp only [outs, List.length_map, List.length_append, List.length_take, List.length_drop, List.length_cons, List.length_nil]
          simp_all [rightB, bsEq_t, bsEq_f, bs_nil]; done
        · skip
          try simp only [bls] at hc4
          conv => whnf
          cases hc5 : (decide (v.n = 0))
          · skip
            try simp only [bls] at hc5
            conv => whnf
            refine FinG.mk none ?_ (by rintro _ ⟨⟩)
            simp only [outs, List.length_map, List.length_append, List.length_take, List.length_drop, List.length_cons, List.length_nil]
            simp_all [rightB, bsEq_t, bsEq_f, bs_nil]; done
          · skip
            try simp only [bls] at hc5
            conv => whnf
            refine FinG.mk none ?_ (by rintro _ ⟨⟩)
            simp only [outs, List.length_map, List.length_append, List.length_take, List.length_drop, List.length_cons, List.length_nil]
            simp_all [rightB, bsEq_t, bsEq_f, bs_nil]; omega
      · skip
        try simp only [bls] at hc3
        conv => whnf
        refine FinG.mk none ?_ (by rintro _ ⟨⟩)
        simp only [outs, List.length_map, List.length_append, List.length_take, List.length_drop, List.length_cons, List.length_nil]
        simp_all [rightB, bsEq_t, bsEq_f, bs_nil]; done
    · skip
      try simp only [bls] at hc2
      conv => whnf
      cases hc6 : (decide (0 ≤ v.n))
      · skip
        try simp only [bls] at hc6
        conv => whnf
        refine FinG.mk none ?_ (by rintro _ ⟨⟩)
        simp only [outs, List.length_map, List.length_append, List.length_take, List.length_drop, List.length_cons, List.length_nil]
        simp_all [rightB, bsEq_t, bsEq_f, bs_nil]; omega
      · skip
        try simp only [bls] at hc6
        conv => whnf
        cases hc7 : (decide (v.n ≤ 1))
        · skip
          try simp only [bls] at hc7
          conv => whnf
          refine FinG.mk none ?_ (by rintro _ ⟨⟩)
          simp only [outs, List.length_map, List.length_append, List.length_take, List.length_drop, List.length_cons, List.length_nil]
          simp_all [rightB, bsEq_t, bsEq_f, bs_nil]; omega
        · skip
          try simp only [bls] at hc7
          conv => whnf
          refine FinG.mk none ?_ (by rintro _ ⟨⟩)
          simp only [outs, List.length_map, List.length_append, List.length_take, List.length_drop, List.length_cons, List.length_nil]
          have hn01 : v.n = 0 ∨ v.n = 1 := by omega
          rcases hn01 with hn01 | hn01 <;> simp_all [rightB, bsEq_t, bsEq_f, bs_nil]
  · skip
    try simp only [bls] at hc1
    conv => whnf
    cases hc8 : (decide (v.n = 0))
    · skip
      try simp only [bls] at hc8
      conv => whnf
      refine FinG.mk none ?_ (by rintro _ ⟨⟩)
      simp only [outs, List.length_map, List.length_append, List.length_take, List.length_drop, List.length_cons, List.length_nil]
      simp_all [rightB, bsEq_t, bsEq_f, bs_nil]; done
    · skip
      try simp only [bls] at hc8
      conv => whnf
      refine FinG.mk none ?_ (by rintro _ ⟨⟩)
      simp only [outs, List.length_map, List.length_append, List.length_take, List.length_drop, List.length_cons, List.length_nil]
      simp_all [rightB, bsEq_t, bsEq_f, bs_nil]; done
set_option maxRecDepth 20000 in
theorem null_X  : XMeets Tryd.prog 25 [] (valX ⟨1, 0, ⟨#[]⟩⟩) := by
  refine XMeets.of_X tabX_ok (avs := []) [] (by kernel_rfl) Tryd.func25 rfl (by simp [PuL, Pu]) (rfl) rfl rfl ?_
  intro B w0
  conv => whnf
  refine FinG.mk none ?_ (by rintro _ ⟨⟩)
  simp only [outs, List.length_map, List.length_append, List.length_take, List.length_drop, List.length_cons, List.length_nil, valX]
set_option maxRecDepth 20000 in
theorem bool_X (b : Bool) : XMeets Tryd.prog 28 [.v (.bool b)] (valX ⟨2, if b then 1 else 0, ⟨#[]⟩⟩) := by
  refine XMeets.of_X tabX_ok (avs := [.p (.v (.bool b)) (nlv _)]) [(0, .p (.v (.bool b)) (nlv _))] (by kernel_rfl) Tryd.func28 rfl (by simp [PuL, Pu]) (rfl) rfl rfl ?_
  intro B w0
  conv => whnf
  cases hc1 : (b)
  · skip
    try simp only [bls] at hc1
    conv => whnf
    refine FinG.mk none ?_ (by rintro _ ⟨⟩)
    simp only [outs, List.length_map, List.length_append, List.length_take, List.length_drop, List.length_cons, List.length_nil, valX]
    simp; done
  · skip
    try simp only [bls] at hc1
    conv => whnf
    refine FinG.mk none ?_ (by rintro _ ⟨⟩)
    simp only [outs, List.length_map, List.length_append, List.length_take, List.length_drop, List.length_cons, List.length_nil, valX]
    simp; done
set_option maxRecDepth 20000 in
theorem int_X (n : Int) : XMeets Tryd.prog 26 [.v (.int .i64 n)] (valX ⟨3, n, ⟨#[]⟩⟩) := by
  refine XMeets.of_X tabX_ok (avs := [.p (.v (.int .i64 n)) (nlv _)]) [(0, .p (.v (.int .i64 n)) (nlv _))] (by kernel_rfl) Tryd.func26 rfl (by simp [PuL, Pu]) (rfl) rfl rfl ?_
  intro B w0
  conv => whnf
  refine FinG.mk none ?_ (by rintro _ ⟨⟩)
  simp only [outs, List.length_map, List.length_append, List.length_take, List.length_drop, List.length_cons, List.length_nil, valX]
set_option maxRecDepth 20000 in
theorem text_X (s : ByteArray) : XMeets Tryd.prog 27 [.v (.string s)] (valX ⟨4, 0, s⟩) := by
  refine XMeets.of_X tabX_ok (avs := [.p (.v (.string s)) (nlv _)]) [(0, .p (.v (.string s)) (nlv _))] (by kernel_rfl) Tryd.func27 rfl (by simp [PuL, Pu]) (rfl) rfl rfl ?_
  intro B w0
  conv => whnf
  refine FinG.mk none ?_ (by rintro _ ⟨⟩)
  simp only [outs, List.length_map, List.length_append, List.length_take, List.length_drop, List.length_cons, List.length_nil, valX]
set_option maxRecDepth 20000 in
theorem nan_i (x : Int) : XMeets Tryd.prog 65 [.v (.int .i64 x)] (.p (.v (.bool false)) (nlv _)) := by
  refine XMeets.of_X tabX_ok (avs := [.p (.v (.int .i64 x)) (nlv _)]) [(0, .p (.v (.int .i64 x)) (nlv _))] (by kernel_rfl) Tryd.func65 rfl (by simp [PuL, Pu]) (rfl) rfl rfl ?_
  intro B w0
  conv => whnf
  refine FinG.mk none ?_ (by rintro _ ⟨⟩)
  simp only [outs, List.length_map, List.length_append, List.length_take, List.length_drop, List.length_cons, List.length_nil]
  simp; done
set_option maxRecDepth 20000 in
theorem nan_j (x : Int) : XMeets Tryd.prog 66 [.v (.int .i64 x)] (.p (.v (.bool false)) (nlv _)) := by
  refine XMeets.of_X tabX_ok (avs := [.p (.v (.int .i64 x)) (nlv _)]) [(0, .p (.v (.int .i64 x)) (nlv _))] (by kernel_rfl) Tryd.func66 rfl (by simp [PuL, Pu]) (rfl) rfl rfl ?_
  intro B w0
  conv => whnf
  refine FinG.mk none ?_ (by rintro _ ⟨⟩)
  simp only [outs, List.length_map, List.length_append, List.length_take, List.length_drop, List.length_cons, List.length_nil]
  simp; done
set_option maxRecDepth 20000 in
theorem nan_s (x : ByteArray) : XMeets Tryd.prog 67 [.v (.string x)] (.p (.v (.bool false)) (nlv _)) := by
  refine XMeets.of_X tabX_ok (avs := [.p (.v (.string x)) (nlv _)]) [(0, .p (.v (.string x)) (nlv _))] (by kernel_rfl) Tryd.func67 rfl (by simp [PuL, Pu]) (rfl) rfl rfl ?_
  intro B w0
  conv => whnf
  refine FinG.mk none ?_ (by rintro _ ⟨⟩)
  simp only [outs, List.length_map, List.length_append, List.length_take, List.length_drop, List.length_cons, List.length_nil]
  simp [bsEq]
set_option maxRecDepth 20000 in
theorem cmp_i (x y : Int) : XMeets Tryd.prog 57 [.v (.int .i64 x), .v (.int .i64 y)] (.p (.v (.int .i64 (cmpI x y))) (nlv _)) := by
  refine XMeets.of_X tabX_ok (avs := [.p (.v (.int .i64 x)) (nlv _), .p (.v (.int .i64 y)) (nlv _)]) [(0, .p (.v (.int .i64 x)) (nlv _)), (1, .p (.v (.int .i64 y)) (nlv _))] (by kernel_rfl) Tryd.func57 rfl (by simp [PuL, Pu]) (rfl) rfl rfl ?_
  intro B w0
  conv => whnf
  refine .ct (CallG.mk (nan_i _) rfl ?_)
  conv => whnf
  refine .ct (CallG.mk (nan_i _) rfl ?_)
  conv => whnf
  cases hc1 : (decide (x < y))
  · skip
    try simp only [bls] at hc1
    conv => whnf
    cases hc2 : (decide (y < x))
    · skip
      try simp only [bls] at hc2
      conv => whnf
      refine FinG.mk none ?_ (by rintro _ ⟨⟩)
      simp only [outs, List.length_map, List.length_append, List.length_take, List.length_drop, List.length_cons, List.length_nil]
      simp [cmpI]; omega
    · skip
      try simp only [bls] at hc2
      conv => whnf
      refine FinG.mk none ?_ (by rintro _ ⟨⟩)
      simp only [outs, List.length_map, List.length_append, List.length_take, List.length_drop, List.length_cons, List.length_nil]
      simp [cmpI]; omega
  · skip
    try simp only [bls] at hc1
    conv => whnf
    refine FinG.mk none ?_ (by rintro _ ⟨⟩)
    simp only [outs, List.length_map, List.length_append, List.length_take, List.length_drop, List.length_cons, List.length_nil]
    simp [cmpI]; omega
set_option maxRecDepth 20000 in
theorem cmp_j (x y : Int) : XMeets Tryd.prog 58 [.v (.int .i64 x), .v (.int .i64 y)] (.p (.v (.int .i64 (cmpI x y))) (nlv _)) := by
  refine XMeets.of_X tabX_ok (avs := [.p (.v (.int .i64 x)) (nlv _), .p (.v (.int .i64 y)) (nlv _)]) [(0, .p (.v (.int .i64 x)) (nlv _)), (1, .p (.v (.int .i64 y)) (nlv _))] (by kernel_rfl) Tryd.func58 rfl (by simp [PuL, Pu]) (rfl) rfl rfl ?_
  intro B w0
  conv => whnf
  refine .ct (CallG.mk (nan_j _) rfl ?_)
  conv => whnf
  refine .ct (CallG.mk (nan_j _) rfl ?_)
  conv => whnf
  cases hc1 : (decide (x < y))
  · skip
    try simp only [bls] at hc1
    conv => whnf
    cases hc2 : (decide (y < x))
    · skip
      try simp only [bls] at hc2
      conv => whnf
      refine FinG.mk none ?_ (by rintro _ ⟨⟩)
      simp only [outs, List.length_map, List.length_append, List.length_take, List.length_drop, List.length_cons, List.length_nil]
      simp [cmpI]; omega
    · skip
      try simp only [bls] at hc2
      conv => whnf
      refine FinG.mk none ?_ (by rintro _ ⟨⟩)
      simp only [outs, List.length_map, List.length_append, List.length_take, List.length_drop, List.length_cons, List.length_nil]
      simp [cmpI]; omega
  · skip
    try simp only [bls] at hc1
    conv => whnf
    refine FinG.mk none ?_ (by rintro _ ⟨⟩)
    simp only [outs, List.length_map, List.length_append, List.length_take, List.length_drop, List.length_cons, List.length_nil]
    simp [cmpI]; omega
theorem bytesLess_irrefl : ∀ a : List UInt8, Op.bytesLess a a = false
  | [] => rfl
  | x :: xs => by simp [Op.bytesLess, bytesLess_irrefl xs]
theorem bytesLess_trich : ∀ a b : List UInt8, Op.bytesLess a b = false → ¬ a = b → Op.bytesLess b a = true
  | [], [], _, h => (h rfl).elim
  | [], _ :: _, h, _ => by simp [Op.bytesLess] at h
  | _ :: _, [], _, _ => rfl
  | x :: xs, y :: ys, h, hn => by
    simp only [Op.bytesLess, Bool.or_eq_false_iff, Bool.and_eq_false_iff, decide_eq_false_iff_not, beq_eq_false_iff_ne, Bool.or_eq_true, decide_eq_true_eq, Bool.and_eq_true, beq_iff_eq] at h ⊢
    by_cases hxy : x = y
    · subst hxy
      refine .inr ⟨rfl, bytesLess_trich xs ys ?_ fun e => hn (by rw [e])⟩
      rcases h.2 with h | h
      · exact (h rfl).elim
      · exact h
    · left
      have h1 : ¬ x.toNat < y.toNat := h.1
      have h2 : x.toNat ≠ y.toNat := fun e => hxy (UInt8.toNat.inj e)
      show y.toNat < x.toNat
      omega
theorem orN_drop {l : List Int} {k : Nat} {x : Int} (h : l[k]? = some x) (hx : x = 0) : orN (l.drop (k + 1)) = orN (l.drop k) := by
  rw [List.drop_eq_getElem_cons (List.getElem?_eq_some_iff.1 h).1, (List.getElem?_eq_some_iff.1 h).2]
  simp [orN, hx]
theorem orN_at {l : List Int} {k : Nat} {x : Int} (h : l[k]? = some x) (hx : x ≠ 0) : orN (l.drop k) = x := by
  rw [List.drop_eq_getElem_cons (List.getElem?_eq_some_iff.1 h).1, (List.getElem?_eq_some_iff.1 h).2]
  simp [orN, hx]
set_option maxRecDepth 20000 in
theorem cmp_s (x y : ByteArray) : XMeets Tryd.prog 59 [.v (.string x), .v (.string y)] (.p (.v (.int .i64 (cmpS (bs x) (bs y)))) (nlv _)) := by
  refine XMeets.of_X tabX_ok (avs := [.p (.v (.string x)) (nlv _), .p (.v (.string y)) (nlv _)]) [(0, .p (.v (.string x)) (nlv _)), (1, .p (.v (.string y)) (nlv _))] (by kernel_rfl) Tryd.func59 rfl (by simp [PuL, Pu]) (rfl) rfl rfl ?_
  intro B w0
  conv => whnf
  refine .ct (CallG.mk (nan_s _) rfl ?_)
  conv => whnf
  refine .ct (CallG.mk (nan_s _) rfl ?_)
  conv => whnf
  cases hc1 : (Op.bytesLess (bs x) (bs y))
  · skip
    try simp only [bls] at hc1
    conv => whnf
    cases hc2 : ((Op.bytesLess (bs x) (bs y) || bsEq x y))
    · skip
      try simp only [bls] at hc2
      conv => whnf
      refine FinG.mk none ?_ (by rintro _ ⟨⟩)
      simp only [outs, List.length_map, List.length_append, List.length_take, List.length_drop, List.length_cons, List.length_nil]
      simp_all [cmpS]; done
    · skip
      try simp only [bls] at hc2
      conv => whnf
      refine FinG.mk none ?_ (by rintro _ ⟨⟩)
      simp only [outs, List.length_map, List.length_append, List.length_take, List.length_drop, List.length_cons, List.length_nil]
      simp_all [cmpS]; done
  · skip
    try simp only [bls] at hc1
    conv => whnf
    refine FinG.mk none ?_ (by rintro _ ⟨⟩)
    simp only [outs, List.length_map, List.length_append, List.length_take, List.length_drop, List.length_cons, List.length_nil]
    simp_all [cmpS]; done
set_option maxRecDepth 20000 in
theorem or_X (b : Bool) (l : List Int) (hl : l.length ≤ 1000) : XMeets Tryd.prog 56 [.sl b (l.map i64c)] (.p (.v (.int .i64 (orN l))) (nlv _)) := by
  refine XMeets.of_X tabX_ok (avs := [.p (.sl false (l.map i64c)) ((nl_i64 l).sl)]) [(0, .p (.sl false (l.map i64c)) ((nl_i64 l).sl))] (by kernel_rfl) Tryd.func56 rfl (by simp [PuL, Pu, pu_i64]) (by simp only [untagL, untag, ut_i64]; rfl) rfl rfl ?_
  intro B w0
  conv => whnf
  refine XT.loop tabX_ok (Y := Nat) [2, 5, 8, 9, 10, 11, 12, 13, 14, 15, 16] (fun k => [(8, .p (.v (.int .i64 k)) (nlv _))]) (fun k => []) (fun k => k ≤ l.length ∧ orN (l.drop k) = orN l) (fun k => l.length - k) 0 ⟨Nat.zero_le _, rfl⟩ ?_ ?_
  · skip
    refine ⟨?_, ?_, ?_⟩
    · skip
      repeat ((conv => whnf); first | exact True.intro | refine ⟨.rfl, ?_⟩ | refine ⟨.any, ?_⟩ | refine ⟨.nil, ?_⟩ | refine ⟨.int (by first | rfl | omega | (simp only [wrs]; omega)), ?_⟩)
    · skip
      repeat (first | exact LeVs.nil | ((conv => whnf); first | exact True.intro | exact .none | exact .row rfl | refine .cells ?_ | refine ⟨_, _, rfl, .rfl, ?_⟩ | refine ⟨_, _, rfl, .any, ?_⟩ | refine ⟨_, _, rfl, .nil, ?_⟩ | refine ⟨_, _, rfl, .int (by first | rfl | omega | (simp only [wrs]; omega)), ?_⟩ | refine ⟨?_, ?_⟩))
    · skip
      repeat (first | exact LeFr.nil | ((conv => whnf); first | exact True.intro | refine ⟨.rfl, ?_⟩ | refine ⟨_, _, rfl, rfl, ?_, ?_⟩))
  · skip
    rintro k ⟨hk, ho⟩
    conv => whnf
    cases hc1 : (decide ((↑k : Int) < (↑(List.map i64c l).length : Int)))
    · skip
      try simp only [bls] at hc1
      conv => whnf
      refine FinG.mk none ?_ (by rintro _ ⟨⟩)
      simp only [outs, List.length_map, List.length_append, List.length_take, List.length_drop, List.length_cons, List.length_nil]
      rw [← ho, List.drop_eq_nil_of_le (by omega)]; rfl
    · skip
      try simp only [bls] at hc1
      conv => whnf
      refine IdxG.map _ rfl (by first | omega | (simp only [bls] at *; omega)) ?_; intro x_ hx_ hk_
      conv => whnf
      refine ⟨rfl, ?_⟩
      conv => whnf
      cases hc2 : (decide (x_ = 0))
      · skip
        try simp only [bls] at hc2
        conv => whnf
        refine FinG.mk none ?_ (by rintro _ ⟨⟩)
        simp only [outs, List.length_map, List.length_append, List.length_take, List.length_drop, List.length_cons, List.length_nil]
        rw [← ho, orN_at hx_ (by assumption)]
      · skip
        try simp only [bls] at hc2
        conv => whnf
        refine ⟨(k + 1), ⟨by omega, (orN_drop hx_ (by assumption)).trans ho⟩, by omega, ?_⟩
        refine ⟨?_, ?_, ?_⟩
        · skip
          repeat ((conv => whnf); first | exact True.intro | refine ⟨.rfl, ?_⟩ | refine ⟨.any, ?_⟩ | refine ⟨.nil, ?_⟩ | refine ⟨.int (by first | rfl | omega | (simp only [wrs]; omega)), ?_⟩)
        · skip
          repeat (first | exact LeVs.nil | ((conv => whnf); first | exact True.intro | exact .none | exact .row rfl | refine .cells ?_ | refine ⟨_, _, rfl, .rfl, ?_⟩ | refine ⟨_, _, rfl, .any, ?_⟩ | refine ⟨_, _, rfl, .nil, ?_⟩ | refine ⟨_, _, rfl, .int (by first | rfl | omega | (simp only [wrs]; omega)), ?_⟩ | refine ⟨?_, ?_⟩))
        · skip
          repeat (first | exact LeFr.nil | ((conv => whnf); first | exact True.intro | refine ⟨.rfl, ?_⟩ | refine ⟨_, _, rfl, rfl, ?_, ?_⟩))
def eqV (a b : Val) : Bool := decide (a.k = b.k) && decide (a.n = b.n) && bsEq a.t b.t
theorem eqV_t {a b : Val} (h : eqV a b = true) : a = b := by
  cases a; cases b
  simp only [eqV, Bool.and_eq_true, decide_eq_true_eq, bsEq_t] at h
  obtain ⟨⟨h1, h2⟩, h3⟩ := h
  rw [h1, h2, bs_ext h3]
theorem eqV_self (a : Val) : eqV a a = true := by simp [eqV, bsEq]
theorem eqVal_run (x y : Operand) (a b : Int) (s : ByteArray) (c d : Int) (t : ByteArray) (w : World) : (do eqGuard .eql 23 x y (.agg #[.int .i64 a, .int .i64 b, .string s]) (.agg #[.int .i64 c, .int .i64 d, .string t]); binOp .eql 23 (.agg #[.int .i64 a, .int .i64 b, .string s]) (.agg #[.int .i64 c, .int .i64 d, .string t]) : Sem Value).run Tryd.prog w = .ok (.bool (eqV ⟨a, b, s⟩ ⟨c, d, t⟩)) w := by
  go_simp
  by_cases h1 : a = c <;> by_cases h2 : b = d <;> by_cases h3 : bs s = bs t <;> simp [h1, h2, h3, eqV, bsEq, bs_eq]
theorem neVal_run (x y : Operand) (a b : Int) (s : ByteArray) (c d : Int) (t : ByteArray) (w : World) : (do eqGuard .neq 23 x y (.agg #[.int .i64 a, .int .i64 b, .string s]) (.agg #[.int .i64 c, .int .i64 d, .string t]); binOp .neq 23 (.agg #[.int .i64 a, .int .i64 b, .string s]) (.agg #[.int .i64 c, .int .i64 d, .string t]) : Sem Value).run Tryd.prog w = .ok (.bool (!(eqV ⟨a, b, s⟩ ⟨c, d, t⟩))) w := by
  go_simp
  by_cases h1 : a = c <;> by_cases h2 : b = d <;> by_cases h3 : bs s = bs t <;> simp [h1, h2, h3, eqV, bsEq, bs_eq]
/-- How two values stand to one another. -/
def cmpV (a b : Val) : Int := orN [cmpI a.k b.k, cmpI a.n b.n, cmpS (bs a.t) (bs b.t)]
set_option maxRecDepth 20000 in
theorem compare_X (a b : Val) : XMeets Tryd.prog 29 [valT a, valT b] (.p (.v (.int .i64 (cmpV a b))) (nlv _)) := by
  refine XMeets.of_X tabX_ok (avs := [valX a, valX b]) [(0, valX a), (1, valX b)] (by kernel_rfl) Tryd.func29 rfl (by simp [PuL, Pu, valT]) (rfl) rfl rfl ?_
  intro B w0
  conv => whnf
  refine RegG.par 18 (by kernel_rfl) ?_
  conv => whnf
  refine CallG.mk (cmp_i _ _) rfl ?_
  conv => whnf
  refine CallG.mk (cmp_j _ _) rfl ?_
  conv => whnf
  refine CallG.mk (cmp_s _ _) rfl ?_
  conv => whnf
  refine CallG.mk (or_X true [_, _, _] (Nat.le_of_ble_eq_true rfl)) rfl ?_
  conv => whnf
  refine FinG.mk none ?_ (by rintro _ ⟨⟩)
  simp only [outs, List.length_map, List.length_append, List.length_take, List.length_drop, List.length_cons, List.length_nil]
  rfl
def fairN (a : Int) : Int := if a = 0 ∨ a = 1 then a else 2
set_option maxRecDepth 20000 in
theorem fair_X (a : Int) : XMeets Tryd.prog 61 [.v (.int .i64 a)] (.p (.v (.int .i64 (fairN a))) (nlv _)) := by
  refine XMeets.of_X tabX_ok (avs := [.p (.v (.int .i64 a)) (nlv _)]) [(0, .p (.v (.int .i64 a)) (nlv _))] (by kernel_rfl) Tryd.func61 rfl (by simp [PuL, Pu]) (rfl) rfl rfl ?_
  intro B w0
  conv => whnf
  cases hc1 : (decide (a = 0))
  · skip
    try simp only [bls] at hc1
    conv => whnf
    cases hc2 : (decide (a = 1))
    · skip
      try simp only [bls] at hc2
      conv => whnf
      refine FinG.mk none ?_ (by rintro _ ⟨⟩)
      simp only [outs, List.length_map, List.length_append, List.length_take, List.length_drop, List.length_cons, List.length_nil]
      simp_all [fairN]
    · skip
      try simp only [bls] at hc2
      conv => whnf
      refine FinG.mk none ?_ (by rintro _ ⟨⟩)
      simp only [outs, List.length_map, List.length_append, List.length_take, List.length_drop, List.length_cons, List.length_nil]
      simp_all [fairN]
  · skip
    try simp only [bls] at hc1
    conv => whnf
    refine FinG.mk none ?_ (by rintro _ ⟨⟩)
    simp only [outs, List.length_map, List.length_append, List.length_take, List.length_drop, List.length_cons, List.length_nil]
    simp_all [fairN]
theorem fairN_cases (a : Int) : fairN a = 0 ∨ fairN a = 1 ∨ fairN a = 2 := by unfold fairN; split <;> omega
def andN (a b : Int) : Int := if fairN a = 0 ∨ fairN b = 0 then 0 else if fairN a = 2 ∨ fairN b = 2 then 2 else 1
def notN (a : Int) : Int := if fairN a = 2 then 2 else 1 - fairN a
def orT (a b : Int) : Int := if fairN a = 1 ∨ fairN b = 1 then 1 else if fairN a = 2 ∨ fairN b = 2 then 2 else 0
theorem fair_0 : fairN 0 = 0 := rfl
theorem fair_1 : fairN 1 = 1 := rfl
theorem fair_2 : fairN 2 = 2 := rfl
theorem not_of (a : Int) : (fairN a = 0 ∧ notN a = 1) ∨ (fairN a = 1 ∧ notN a = 0) ∨ (fairN a = 2 ∧ notN a = 2) := by
  rcases fairN_cases a with h | h | h <;> simp [notN, h]
theorem fair_not (a : Int) : fairN (notN a) = notN a := by
  rcases not_of a with ⟨_, h⟩ | ⟨_, h⟩ | ⟨_, h⟩ <;> rw [h] <;> rfl
theorem or_not (a b : Int) : notN (andN (notN a) (notN b)) = orT a b := by
  rcases not_of a with ⟨h, g⟩ | ⟨h, g⟩ | ⟨h, g⟩ <;> rcases not_of b with ⟨h', g'⟩ | ⟨h', g'⟩ | ⟨h', g'⟩ <;> simp [andN, fair_not, orT, h, h', g, g', notN, fair_0, fair_1, fair_2]
def bothN (op last : Int) (a b : Val) : Int := if op < 1 ∨ last < op then 2 else if rightB a = true ∧ rightB b = true then 0 else 150
def tstB (op c : Int) : Bool := if op = 1 then decide (c = 0) else if op = 2 then decide (c ≠ 0) else if op = 3 then decide (c < 0) else if op = 4 then decide (c ≤ 0) else if op = 5 then decide (0 < c) else decide (0 ≤ c)
def testN (op : Int) (a b : Val) : Int × Int := if bothN op 6 a b ≠ 0 then (0, bothN op 6 a b) else if a.k = 1 ∨ b.k = 1 then (2, 0) else if a.k ≠ b.k ∨ (a.k = 2 ∧ 2 < op) then (0, 153) else (if tstB op (cmpV a b) then 1 else 0, 0)
set_option maxRecDepth 20000 in
theorem and_X (a b : Int) : XMeets Tryd.prog 33 [.v (.int .i64 a), .v (.int .i64 b)] (.p (.v (.int .i64 (andN a b))) (nlv _)) := by
  refine XMeets.of_X tabX_ok (avs := [.p (.v (.int .i64 a)) (nlv _), .p (.v (.int .i64 b)) (nlv _)]) [(0, .p (.v (.int .i64 a)) (nlv _)), (1, .p (.v (.int .i64 b)) (nlv _))] (by kernel_rfl) Tryd.func33 rfl (by simp [PuL, Pu]) (rfl) rfl rfl ?_
  intro B w0
  conv => whnf
  refine .ct ?_
  conv => whnf
  refine CallG.mk (fair_X _) rfl ?_
  conv => whnf
  refine .ct ?_
  conv => whnf
  refine CallG.mk (fair_X _) rfl ?_
  conv => whnf
  cases hc1 : (decide (fairN a = 0))
  · skip
    try simp only [bls] at hc1
    conv => whnf
    cases hc2 : (decide (fairN b = 0))
    · skip
      try simp only [bls] at hc2
      conv => whnf
      cases hc3 : (decide (fairN a = 2))
      · skip
        try simp only [bls] at hc3
        conv => whnf
        cases hc4 : (decide (fairN b = 2))
        · skip
          try simp only [bls] at hc4
          conv => whnf
          refine FinG.mk none ?_ (by rintro _ ⟨⟩)
          simp only [outs, List.length_map, List.length_append, List.length_take, List.length_drop, List.length_cons, List.length_nil]
          rcases fairN_cases a with h1 | h1 | h1 <;> rcases fairN_cases b with h2 | h2 | h2 <;> simp_all [andN, orT]
        · skip
          try simp only [bls] at hc4
          conv => whnf
          refine FinG.mk none ?_ (by rintro _ ⟨⟩)
          simp only [outs, List.length_map, List.length_append, List.length_take, List.length_drop, List.length_cons, List.length_nil]
          rcases fairN_cases a with h1 | h1 | h1 <;> rcases fairN_cases b with h2 | h2 | h2 <;> simp_all [andN, orT]
      · skip
        try simp only [bls] at hc3
        conv => whnf
        refine FinG.mk none ?_ (by rintro _ ⟨⟩)
        simp only [outs, List.length_map, List.length_append, List.length_take, List.length_drop, List.length_cons, List.length_nil]
        rcases fairN_cases a with h1 | h1 | h1 <;> rcases fairN_cases b with h2 | h2 | h2 <;> simp_all [andN, orT]
    · skip
      try simp only [bls] at hc2
      conv => whnf
      refine FinG.mk none ?_ (by rintro _ ⟨⟩)
      simp only [outs, List.length_map, List.length_append, List.length_take, List.length_drop, List.length_cons, List.length_nil]
      rcases fairN_cases a with h1 | h1 | h1 <;> rcases fairN_cases b with h2 | h2 | h2 <;> simp_all [andN, orT]
  · skip
    try simp only [bls] at hc1
    conv => whnf
    refine FinG.mk none ?_ (by rintro _ ⟨⟩)
    simp only [outs, List.length_map, List.length_append, List.length_take, List.length_drop, List.length_cons, List.length_nil]
    rcases fairN_cases a with h1 | h1 | h1 <;> rcases fairN_cases b with h2 | h2 | h2 <;> simp_all [andN, orT]
set_option maxRecDepth 20000 in
theorem not_X (a : Int) : XMeets Tryd.prog 37 [.v (.int .i64 a)] (.p (.v (.int .i64 (notN a))) (nlv _)) := by
  refine XMeets.of_X tabX_ok (avs := [.p (.v (.int .i64 a)) (nlv _)]) [(0, .p (.v (.int .i64 a)) (nlv _))] (by kernel_rfl) Tryd.func37 rfl (by simp [PuL, Pu]) (rfl) rfl rfl ?_
  intro B w0
  have hfa := fairN_cases a
  conv => whnf
  refine .ct ?_
  conv => whnf
  refine CallG.mk (fair_X _) rfl ?_
  conv => whnf
  cases hc1 : (decide (fairN a = 2))
  · skip
    try simp only [bls] at hc1
    conv => whnf
    refine FinG.mk none ?_ (by rintro _ ⟨⟩)
    simp only [outs, List.length_map, List.length_append, List.length_take, List.length_drop, List.length_cons, List.length_nil]
    rcases hfa with h | h | h <;> simp_all [notN, wrs]
  · skip
    try simp only [bls] at hc1
    conv => whnf
    refine FinG.mk none ?_ (by rintro _ ⟨⟩)
    simp only [outs, List.length_map, List.length_append, List.length_take, List.length_drop, List.length_cons, List.length_nil]
    rcases hfa with h | h | h <;> simp_all [notN, wrs]
set_option maxRecDepth 20000 in
theorem or3_X (a b : Int) : XMeets Tryd.prog 35 [.v (.int .i64 a), .v (.int .i64 b)] (.p (.v (.int .i64 (orT a b))) (nlv _)) := by
  refine XMeets.of_X tabX_ok (avs := [.p (.v (.int .i64 a)) (nlv _), .p (.v (.int .i64 b)) (nlv _)]) [(0, .p (.v (.int .i64 a)) (nlv _)), (1, .p (.v (.int .i64 b)) (nlv _))] (by kernel_rfl) Tryd.func35 rfl (by simp [PuL, Pu]) (rfl) rfl rfl ?_
  intro B w0
  conv => whnf
  refine .ct ?_
  conv => whnf
  refine CallG.mk (not_X _) rfl ?_
  conv => whnf
  refine .ct ?_
  conv => whnf
  refine CallG.mk (not_X _) rfl ?_
  conv => whnf
  refine .ct ?_
  conv => whnf
  refine CallG.mk (and_X _ _) rfl ?_
  conv => whnf
  refine .ct ?_
  conv => whnf
  refine CallG.mk (not_X _) rfl ?_
  conv => whnf
  refine FinG.mk none ?_ (by rintro _ ⟨⟩)
  simp only [outs, List.length_map, List.length_append, List.length_take, List.length_drop, List.length_cons, List.length_nil]
  rw [or_not]
set_option maxRecDepth 20000 in
theorem fair5_X (a : Int) : XMeets Tryd.prog 62 [.v (.int .i64 a)] (.p (.v (.int .i64 (fairN a))) (nlv _)) := by
  refine XMeets.of_X tabX_ok (avs := [.p (.v (.int .i64 a)) (nlv _)]) [(0, .p (.v (.int .i64 a)) (nlv _))] (by kernel_rfl) Tryd.func62 rfl (by simp [PuL, Pu]) (rfl) rfl rfl ?_
  intro B w0
  conv => whnf
  cases hc1 : (decide (a = 0))
  · skip
    try simp only [bls] at hc1
    conv => whnf
    cases hc2 : (decide (a = 1))
    · skip
      try simp only [bls] at hc2
      conv => whnf
      refine FinG.mk none ?_ (by rintro _ ⟨⟩)
      simp only [outs, List.length_map, List.length_append, List.length_take, List.length_drop, List.length_cons, List.length_nil]
      simp_all [fairN]
    · skip
      try simp only [bls] at hc2
      conv => whnf
      refine FinG.mk none ?_ (by rintro _ ⟨⟩)
      simp only [outs, List.length_map, List.length_append, List.length_take, List.length_drop, List.length_cons, List.length_nil]
      simp_all [fairN]
  · skip
    try simp only [bls] at hc1
    conv => whnf
    refine FinG.mk none ?_ (by rintro _ ⟨⟩)
    simp only [outs, List.length_map, List.length_append, List.length_take, List.length_drop, List.length_cons, List.length_nil]
    simp_all [fairN]
set_option maxRecDepth 20000 in
theorem and5_X (a b : Int) : XMeets Tryd.prog 34 [.v (.int .i64 a), .v (.int .i64 b)] (.p (.v (.int .i64 (andN a b))) (nlv _)) := by
  refine XMeets.of_X tabX_ok (avs := [.p (.v (.int .i64 a)) (nlv _), .p (.v (.int .i64 b)) (nlv _)]) [(0, .p (.v (.int .i64 a)) (nlv _)), (1, .p (.v (.int .i64 b)) (nlv _))] (by kernel_rfl) Tryd.func34 rfl (by simp [PuL, Pu]) (rfl) rfl rfl ?_
  intro B w0
  conv => whnf
  refine .ct ?_
  conv => whnf
  refine CallG.mk (fair5_X _) rfl ?_
  conv => whnf
  cases hc1 : (decide (fairN a = 0))
  · skip
    try simp only [bls] at hc1
    conv => whnf
    refine .ct ?_
    conv => whnf
    refine CallG.mk (fair5_X _) rfl ?_
    conv => whnf
    cases hc2 : (decide (fairN b = 0))
    · skip
      try simp only [bls] at hc2
      conv => whnf
      refine .ct ?_
      conv => whnf
      refine CallG.mk (fair5_X _) rfl ?_
      conv => whnf
      cases hc3 : (decide (fairN a = 2))
      · skip
        try simp only [bls] at hc3
        conv => whnf
        refine .ct ?_
        conv => whnf
        refine CallG.mk (fair5_X _) rfl ?_
        conv => whnf
        cases hc4 : (decide (fairN b = 2))
        · skip
          try simp only [bls] at hc4
          conv => whnf
          refine FinG.mk none ?_ (by rintro _ ⟨⟩)
          simp only [outs, List.length_map, List.length_append, List.length_take, List.length_drop, List.length_cons, List.length_nil]
          rcases fairN_cases a with h1 | h1 | h1 <;> rcases fairN_cases b with h2 | h2 | h2 <;> simp_all [andN, orT]
        · skip
          try simp only [bls] at hc4
          conv => whnf
          refine FinG.mk none ?_ (by rintro _ ⟨⟩)
          simp only [outs, List.length_map, List.length_append, List.length_take, List.length_drop, List.length_cons, List.length_nil]
          rcases fairN_cases a with h1 | h1 | h1 <;> rcases fairN_cases b with h2 | h2 | h2 <;> simp_all [andN, orT]
      · skip
        try simp only [bls] at hc3
        conv => whnf
        refine FinG.mk none ?_ (by rintro _ ⟨⟩)
        simp only [outs, List.length_map, List.length_append, List.length_take, List.length_drop, List.length_cons, List.length_nil]
        rcases fairN_cases a with h1 | h1 | h1 <;> rcases fairN_cases b with h2 | h2 | h2 <;> simp_all [andN, orT]
    · skip
      try simp only [bls] at hc2
      conv => whnf
      refine FinG.mk none ?_ (by rintro _ ⟨⟩)
      simp only [outs, List.length_map, List.length_append, List.length_take, List.length_drop, List.length_cons, List.length_nil]
      rcases fairN_cases a with h1 | h1 | h1 <;> rcases fairN_cases b with h2 | h2 | h2 <;> simp_all [andN, orT]
  · skip
    try simp only [bls] at hc1
    conv => whnf
    refine FinG.mk none ?_ (by rintro _ ⟨⟩)
    simp only [outs, List.length_map, List.length_append, List.length_take, List.length_drop, List.length_cons, List.length_nil]
    rcases fairN_cases a with h1 | h1 | h1 <;> rcases fairN_cases b with h2 | h2 | h2 <;> simp_all [andN, orT]
set_option maxRecDepth 20000 in
theorem not5_X (a : Int) : XMeets Tryd.prog 38 [.v (.int .i64 a)] (.p (.v (.int .i64 (notN a))) (nlv _)) := by
  refine XMeets.of_X tabX_ok (avs := [.p (.v (.int .i64 a)) (nlv _)]) [(0, .p (.v (.int .i64 a)) (nlv _))] (by kernel_rfl) Tryd.func38 rfl (by simp [PuL, Pu]) (rfl) rfl rfl ?_
  intro B w0
  have hfa := fairN_cases a
  conv => whnf
  refine .ct ?_
  conv => whnf
  refine CallG.mk (fair5_X _) rfl ?_
  conv => whnf
  cases hc1 : (decide (fairN a = 2))
  · skip
    try simp only [bls] at hc1
    conv => whnf
    refine .ct ?_
    conv => whnf
    refine CallG.mk (fair5_X _) rfl ?_
    conv => whnf
    refine FinG.mk none ?_ (by rintro _ ⟨⟩)
    simp only [outs, List.length_map, List.length_append, List.length_take, List.length_drop, List.length_cons, List.length_nil]
    rcases hfa with h | h | h <;> simp_all [notN, wrs]
  · skip
    try simp only [bls] at hc1
    conv => whnf
    refine FinG.mk none ?_ (by rintro _ ⟨⟩)
    simp only [outs, List.length_map, List.length_append, List.length_take, List.length_drop, List.length_cons, List.length_nil]
    rcases hfa with h | h | h <;> simp_all [notN, wrs]
set_option maxRecDepth 20000 in
theorem or5_X (a b : Int) : XMeets Tryd.prog 36 [.v (.int .i64 a), .v (.int .i64 b)] (.p (.v (.int .i64 (orT a b))) (nlv _)) := by
  refine XMeets.of_X tabX_ok (avs := [.p (.v (.int .i64 a)) (nlv _), .p (.v (.int .i64 b)) (nlv _)]) [(0, .p (.v (.int .i64 a)) (nlv _)), (1, .p (.v (.int .i64 b)) (nlv _))] (by kernel_rfl) Tryd.func36 rfl (by simp [PuL, Pu]) (rfl) rfl rfl ?_
  intro B w0
  conv => whnf
  refine .ct ?_
  conv => whnf
  refine CallG.mk (fair5_X _) rfl ?_
  conv => whnf
  cases hc1 : (decide (fairN a = 1))
  · skip
    try simp only [bls] at hc1
    conv => whnf
    refine .ct ?_
    conv => whnf
    refine CallG.mk (fair5_X _) rfl ?_
    conv => whnf
    cases hc2 : (decide (fairN b = 1))
    · skip
      try simp only [bls] at hc2
      conv => whnf
      refine .ct ?_
      conv => whnf
      refine CallG.mk (fair5_X _) rfl ?_
      conv => whnf
      cases hc3 : (decide (fairN a = 2))
      · skip
        try simp only [bls] at hc3
        conv => whnf
        refine .ct ?_
        conv => whnf
        refine CallG.mk (fair5_X _) rfl ?_
        conv => whnf
        cases hc4 : (decide (fairN b = 2))
        · skip
          try simp only [bls] at hc4
          conv => whnf
          refine FinG.mk none ?_ (by rintro _ ⟨⟩)
          simp only [outs, List.length_map, List.length_append, List.length_take, List.length_drop, List.length_cons, List.length_nil]
          rcases fairN_cases a with h1 | h1 | h1 <;> rcases fairN_cases b with h2 | h2 | h2 <;> simp_all [andN, orT]
        · skip
          try simp only [bls] at hc4
          conv => whnf
          refine FinG.mk none ?_ (by rintro _ ⟨⟩)
          simp only [outs, List.length_map, List.length_append, List.length_take, List.length_drop, List.length_cons, List.length_nil]
          rcases fairN_cases a with h1 | h1 | h1 <;> rcases fairN_cases b with h2 | h2 | h2 <;> simp_all [andN, orT]
      · skip
        try simp only [bls] at hc3
        conv => whnf
        refine FinG.mk none ?_ (by rintro _ ⟨⟩)
        simp only [outs, List.length_map, List.length_append, List.length_take, List.length_drop, List.length_cons, List.length_nil]
        rcases fairN_cases a with h1 | h1 | h1 <;> rcases fairN_cases b with h2 | h2 | h2 <;> simp_all [andN, orT]
    · skip
      try simp only [bls] at hc2
      conv => whnf
      refine FinG.mk none ?_ (by rintro _ ⟨⟩)
      simp only [outs, List.length_map, List.length_append, List.length_take, List.length_drop, List.length_cons, List.length_nil]
      rcases fairN_cases a with h1 | h1 | h1 <;> rcases fairN_cases b with h2 | h2 | h2 <;> simp_all [andN, orT]
  · skip
    try simp only [bls] at hc1
    conv => whnf
    refine FinG.mk none ?_ (by rintro _ ⟨⟩)
    simp only [outs, List.length_map, List.length_append, List.length_take, List.length_drop, List.length_cons, List.length_nil]
    rcases fairN_cases a with h1 | h1 | h1 <;> rcases fairN_cases b with h2 | h2 | h2 <;> simp_all [andN, orT]
set_option maxRecDepth 20000 in
theorem is_X (b : Bool) : XMeets Tryd.prog 40 [.v (.bool b)] (.p (.v (.int .i64 (if b then 1 else 0))) (nlv _)) := by
  refine XMeets.of_X tabX_ok (avs := [.p (.v (.bool b)) (nlv _)]) [(0, .p (.v (.bool b)) (nlv _))] (by kernel_rfl) Tryd.func40 rfl (by simp [PuL, Pu]) (rfl) rfl rfl ?_
  intro B w0
  conv => whnf
  cases hc1 : (b)
  · skip
    try simp only [bls] at hc1
    conv => whnf
    refine FinG.mk none ?_ (by rintro _ ⟨⟩)
    simp only [outs, List.length_map, List.length_append, List.length_take, List.length_drop, List.length_cons, List.length_nil]
    simp; done
  · skip
    try simp only [bls] at hc1
    conv => whnf
    refine FinG.mk none ?_ (by rintro _ ⟨⟩)
    simp only [outs, List.length_map, List.length_append, List.length_take, List.length_drop, List.length_cons, List.length_nil]
    simp; done
set_option maxRecDepth 20000 in
theorem both_X (op last : Int) (a b : Val) : XMeets Tryd.prog 39 [.v (.int .i64 op), .v (.int .i64 last), valT a, valT b] (.p (.v (.int .i64 (bothN op last a b))) (nlv _)) := by
  refine XMeets.of_X tabX_ok (avs := [.p (.v (.int .i64 op)) (nlv _), .p (.v (.int .i64 last)) (nlv _), valX a, valX b]) [(0, .p (.v (.int .i64 op)) (nlv _)), (1, .p (.v (.int .i64 last)) (nlv _)), (2, valX a), (3, valX b)] (by kernel_rfl) Tryd.func39 rfl (by simp [PuL, Pu, valT]) (rfl) rfl rfl ?_
  intro B w0
  conv => whnf
  cases hc1 : (decide (op < 1))
  · skip
    try simp only [bls] at hc1
    conv => whnf
    cases hc2 : (decide (last < op))
    · skip
      try simp only [bls] at hc2
      conv => whnf
      refine .ct ?_
      conv => whnf
      refine CallG.mk (check_X _) rfl ?_
      conv => whnf
      cases hc3 : (decide (checkN a = 0))
      · skip
        try simp only [bls] at hc3
        conv => whnf
        refine FinG.mk none ?_ (by rintro _ ⟨⟩)
        simp only [outs, List.length_map, List.length_append, List.length_take, List.length_drop, List.length_cons, List.length_nil]
        try simp only [checkN_0] at *
        unfold bothN; split <;> simp_all <;> omega
      · skip
        try simp only [bls] at hc3
        conv => whnf
        refine .ct ?_
        conv => whnf
        refine CallG.mk (check_X _) rfl ?_
        conv => whnf
        cases hc4 : (decide (checkN b = 0))
        · skip
          try simp only [bls] at hc4
          conv => whnf
          refine FinG.mk none ?_ (by rintro _ ⟨⟩)
          simp only [outs, List.length_map, List.length_append, List.length_take, List.length_drop, List.length_cons, List.length_nil]
          try simp only [checkN_0] at *
          unfold bothN; split <;> simp_all <;> omega
        · skip
          try simp only [bls] at hc4
          conv => whnf
          refine FinG.mk none ?_ (by rintro _ ⟨⟩)
          simp only [outs, List.length_map, List.length_append, List.length_take, List.length_drop, List.length_cons, List.length_nil]
          try simp only [checkN_0] at *
          unfold bothN; split <;> simp_all <;> omega
    · skip
      try simp only [bls] at hc2
      conv => whnf
      refine FinG.mk none ?_ (by rintro _ ⟨⟩)
      simp only [outs, List.length_map, List.length_append, List.length_take, List.length_drop, List.length_cons, List.length_nil]
      try simp only [checkN_0] at *
      unfold bothN; split <;> simp_all
  · skip
    try simp only [bls] at hc1
    conv => whnf
    refine FinG.mk none ?_ (by rintro _ ⟨⟩)
    simp only [outs, List.length_map, List.length_append, List.length_take, List.length_drop, List.length_cons, List.length_nil]
    try simp only [checkN_0] at *
    unfold bothN; split <;> simp_all
set_option maxRecDepth 20000 in
theorem tst1_X (c : Int) : XMeets Tryd.prog 87 [.v (.int .i64 c)] (.p (.v (.bool (decide (c = 0)))) (nlv _)) := by
  refine XMeets.of_X tabX_ok (avs := [.p (.v (.int .i64 c)) (nlv _)]) [(0, .p (.v (.int .i64 c)) (nlv _))] (by kernel_rfl) Tryd.func87 rfl (by simp [PuL, Pu]) (rfl) rfl rfl ?_
  intro B w0
  conv => whnf
  refine FinG.mk none ?_ (by rintro _ ⟨⟩)
  simp only [outs, List.length_map, List.length_append, List.length_take, List.length_drop, List.length_cons, List.length_nil]
set_option maxRecDepth 20000 in
theorem tst2_X (c : Int) : XMeets Tryd.prog 88 [.v (.int .i64 c)] (.p (.v (.bool (decide (c ≠ 0)))) (nlv _)) := by
  refine XMeets.of_X tabX_ok (avs := [.p (.v (.int .i64 c)) (nlv _)]) [(0, .p (.v (.int .i64 c)) (nlv _))] (by kernel_rfl) Tryd.func88 rfl (by simp [PuL, Pu]) (rfl) rfl rfl ?_
  intro B w0
  conv => whnf
  refine FinG.mk none ?_ (by rintro _ ⟨⟩)
  simp only [outs, List.length_map, List.length_append, List.length_take, List.length_drop, List.length_cons, List.length_nil]
  simp; done
set_option maxRecDepth 20000 in
theorem tst3_X (c : Int) : XMeets Tryd.prog 89 [.v (.int .i64 c)] (.p (.v (.bool (decide (c < 0)))) (nlv _)) := by
  refine XMeets.of_X tabX_ok (avs := [.p (.v (.int .i64 c)) (nlv _)]) [(0, .p (.v (.int .i64 c)) (nlv _))] (by kernel_rfl) Tryd.func89 rfl (by simp [PuL, Pu]) (rfl) rfl rfl ?_
  intro B w0
  conv => whnf
  refine FinG.mk none ?_ (by rintro _ ⟨⟩)
  simp only [outs, List.length_map, List.length_append, List.length_take, List.length_drop, List.length_cons, List.length_nil]
set_option maxRecDepth 20000 in
theorem tst4_X (c : Int) : XMeets Tryd.prog 90 [.v (.int .i64 c)] (.p (.v (.bool (decide (c ≤ 0)))) (nlv _)) := by
  refine XMeets.of_X tabX_ok (avs := [.p (.v (.int .i64 c)) (nlv _)]) [(0, .p (.v (.int .i64 c)) (nlv _))] (by kernel_rfl) Tryd.func90 rfl (by simp [PuL, Pu]) (rfl) rfl rfl ?_
  intro B w0
  conv => whnf
  refine FinG.mk none ?_ (by rintro _ ⟨⟩)
  simp only [outs, List.length_map, List.length_append, List.length_take, List.length_drop, List.length_cons, List.length_nil]
set_option maxRecDepth 20000 in
theorem tst5_X (c : Int) : XMeets Tryd.prog 91 [.v (.int .i64 c)] (.p (.v (.bool (decide (0 < c)))) (nlv _)) := by
  refine XMeets.of_X tabX_ok (avs := [.p (.v (.int .i64 c)) (nlv _)]) [(0, .p (.v (.int .i64 c)) (nlv _))] (by kernel_rfl) Tryd.func91 rfl (by simp [PuL, Pu]) (rfl) rfl rfl ?_
  intro B w0
  conv => whnf
  refine FinG.mk none ?_ (by rintro _ ⟨⟩)
  simp only [outs, List.length_map, List.length_append, List.length_take, List.length_drop, List.length_cons, List.length_nil]
set_option maxRecDepth 20000 in
theorem tst6_X (c : Int) : XMeets Tryd.prog 92 [.v (.int .i64 c)] (.p (.v (.bool (decide (0 ≤ c)))) (nlv _)) := by
  refine XMeets.of_X tabX_ok (avs := [.p (.v (.int .i64 c)) (nlv _)]) [(0, .p (.v (.int .i64 c)) (nlv _))] (by kernel_rfl) Tryd.func92 rfl (by simp [PuL, Pu]) (rfl) rfl rfl ?_
  intro B w0
  conv => whnf
  refine FinG.mk none ?_ (by rintro _ ⟨⟩)
  simp only [outs, List.length_map, List.length_append, List.length_take, List.length_drop, List.length_cons, List.length_nil]
set_option maxRecDepth 20000 in
theorem test_X (op : Int) (a b : Val) : XMeets Tryd.prog 13 [.v (.int .i64 op), valT a, valT b] (.tu [.p (.v (.int .i64 (testN op a b).1)) (nlv _), .p (.v (.int .i64 (testN op a b).2)) (nlv _)]) := by
  refine XMeets.of_X tabX_ok (avs := [.p (.v (.int .i64 op)) (nlv _), valX a, valX b]) [(0, .p (.v (.int .i64 op)) (nlv _)), (1, valX a), (2, valX b)] (by kernel_rfl) Tryd.func13 rfl (by simp [PuL, Pu, valT]) (rfl) rfl rfl ?_
  intro B w0
  conv => whnf
  refine .ct ?_
  conv => whnf
  refine CallG.mk (both_X _ _ _ _) rfl ?_
  conv => whnf
  cases hc1 : (decide (bothN op 6 a b = 0))
  · skip
    try simp only [bls] at hc1
    conv => whnf
    refine FinG.mk none ?_ (by rintro _ ⟨⟩)
    simp only [outs, List.length_map, List.length_append, List.length_take, List.length_drop, List.length_cons, List.length_nil]
    simp_all [testN]; done
  · skip
    try simp only [bls] at hc1
    conv => whnf
    cases hc2 : (decide (a.k = 1))
    · skip
      try simp only [bls] at hc2
      conv => whnf
      cases hc3 : (decide (b.k = 1))
      · skip
        try simp only [bls] at hc3
        conv => whnf
        cases hc4 : (decide (a.k = b.k))
        · skip
          try simp only [bls] at hc4
          conv => whnf
          refine FinG.mk none ?_ (by rintro _ ⟨⟩)
          simp only [outs, List.length_map, List.length_append, List.length_take, List.length_drop, List.length_cons, List.length_nil]
          simp_all [testN]; done
        · skip
          try simp only [bls] at hc4
          conv => whnf
          cases hc5 : (decide (a.k = 2))
          · skip
            try simp only [bls] at hc5
            conv => whnf
            refine RegG.par 10 (by kernel_rfl) ?_
            conv => whnf
            rcases (show op = 1 ∨ op = 2 ∨ op = 3 ∨ op = 4 ∨ op = 5 ∨ op = 6 by have hb := hc1; unfold bothN at hb; split at hb <;> omega) with rfl | rfl | rfl | rfl | rfl | rfl
            · skip
              conv => whnf
              refine ⟨_, rfl, ?_⟩
              conv => whnf
              refine ⟨by simp; done, ?_⟩
              conv => whnf
              refine CallG.mk (compare_X _ _) rfl ?_
              conv => whnf
              refine CallG.mk (tst1_X _) rfl ?_
              conv => whnf
              refine CallG.mk (is_X _) rfl ?_
              conv => whnf
              refine FinG.mk none ?_ (by rintro _ ⟨⟩)
              simp only [outs, List.length_map, List.length_append, List.length_take, List.length_drop, List.length_cons, List.length_nil]
              simp_all [testN, tstB]; done
            · skip
              conv => whnf
              refine ⟨_, rfl, ?_⟩
              conv => whnf
              refine ⟨by simp; done, ?_⟩
              conv => whnf
              refine CallG.mk (compare_X _ _) rfl ?_
              conv => whnf
              refine CallG.mk (tst2_X _) rfl ?_
              conv => whnf
              refine CallG.mk (is_X _) rfl ?_
              conv => whnf
              refine FinG.mk none ?_ (by rintro _ ⟨⟩)
              simp only [outs, List.length_map, List.length_append, List.length_take, List.length_drop, List.length_cons, List.length_nil]
              simp_all [testN, tstB]; done
            · skip
              conv => whnf
              refine ⟨_, rfl, ?_⟩
              conv => whnf
              refine ⟨by simp; done, ?_⟩
              conv => whnf
              refine CallG.mk (compare_X _ _) rfl ?_
              conv => whnf
              refine CallG.mk (tst3_X _) rfl ?_
              conv => whnf
              refine CallG.mk (is_X _) rfl ?_
              conv => whnf
              refine FinG.mk none ?_ (by rintro _ ⟨⟩)
              simp only [outs, List.length_map, List.length_append, List.length_take, List.length_drop, List.length_cons, List.length_nil]
              simp_all [testN, tstB]; done
            · skip
              conv => whnf
              refine ⟨_, rfl, ?_⟩
              conv => whnf
              refine ⟨by simp; done, ?_⟩
              conv => whnf
              refine CallG.mk (compare_X _ _) rfl ?_
              conv => whnf
              refine CallG.mk (tst4_X _) rfl ?_
              conv => whnf
              refine CallG.mk (is_X _) rfl ?_
              conv => whnf
              refine FinG.mk none ?_ (by rintro _ ⟨⟩)
              simp only [outs, List.length_map, List.length_append, List.length_take, List.length_drop, List.length_cons, List.length_nil]
              simp_all [testN, tstB]; done
            · skip
              conv => whnf
              refine ⟨_, rfl, ?_⟩
              conv => whnf
              refine ⟨by simp; done, ?_⟩
              conv => whnf
              refine CallG.mk (compare_X _ _) rfl ?_
              conv => whnf
              refine CallG.mk (tst5_X _) rfl ?_
              conv => whnf
              refine CallG.mk (is_X _) rfl ?_
              conv => whnf
              refine FinG.mk none ?_ (by rintro _ ⟨⟩)
              simp only [outs, List.length_map, List.length_append, List.length_take, List.length_drop, List.length_cons, List.length_nil]
              simp_all [testN, tstB]; done
            · skip
              conv => whnf
              refine ⟨_, rfl, ?_⟩
              conv => whnf
              refine ⟨by simp; done, ?_⟩
              conv => whnf
              refine CallG.mk (compare_X _ _) rfl ?_
              conv => whnf
              refine CallG.mk (tst6_X _) rfl ?_
              conv => whnf
              refine CallG.mk (is_X _) rfl ?_
              conv => whnf
              refine FinG.mk none ?_ (by rintro _ ⟨⟩)
              simp only [outs, List.length_map, List.length_append, List.length_take, List.length_drop, List.length_cons, List.length_nil]
              simp_all [testN, tstB]; done
          · skip
            try simp only [bls] at hc5
            conv => whnf
            cases hc6 : (decide (op = 1))
            · skip
              try simp only [bls] at hc6
              conv => whnf
              cases hc7 : (decide (op = 2))
              · skip
                try simp only [bls] at hc7
                conv => whnf
                refine FinG.mk none ?_ (by rintro _ ⟨⟩)
                simp only [outs, List.length_map, List.length_append, List.length_take, List.length_drop, List.length_cons, List.length_nil]
                have h2 : 2 < op := by unfold bothN at *; split at * <;> omega
                simp_all [testN]
              · skip
                try simp only [bls] at hc7
                conv => whnf
                refine RegG.par 10 (by kernel_rfl) ?_
                conv => whnf
                rcases (show op = 1 ∨ op = 2 ∨ op = 3 ∨ op = 4 ∨ op = 5 ∨ op = 6 by have hb := hc1; unfold bothN at hb; split at hb <;> omega) with rfl | rfl | rfl | rfl | rfl | rfl
                · skip
                  conv => whnf
                  refine ⟨_, rfl, ?_⟩
                  conv => whnf
                  refine ⟨by omega, ?_⟩
                  conv => whnf
                  refine CallG.mk (compare_X _ _) rfl ?_
                  conv => whnf
                  refine CallG.mk (tst1_X _) rfl ?_
                  conv => whnf
                  refine CallG.mk (is_X _) rfl ?_
                  conv => whnf
                  refine FinG.mk none ?_ (by rintro _ ⟨⟩)
                  simp only [outs, List.length_map, List.length_append, List.length_take, List.length_drop, List.length_cons, List.length_nil]
                  simp_all [testN]; done
                · skip
                  conv => whnf
                  refine ⟨_, rfl, ?_⟩
                  conv => whnf
                  refine ⟨by simp; done, ?_⟩
                  conv => whnf
                  refine CallG.mk (compare_X _ _) rfl ?_
                  conv => whnf
                  refine CallG.mk (tst2_X _) rfl ?_
                  conv => whnf
                  refine CallG.mk (is_X _) rfl ?_
                  conv => whnf
                  refine FinG.mk none ?_ (by rintro _ ⟨⟩)
                  simp only [outs, List.length_map, List.length_append, List.length_take, List.length_drop, List.length_cons, List.length_nil]
                  simp_all [testN, tstB]; done
                · skip
                  conv => whnf
                  refine ⟨_, rfl, ?_⟩
                  conv => whnf
                  refine ⟨by omega, ?_⟩
                  conv => whnf
                  refine CallG.mk (compare_X _ _) rfl ?_
                  conv => whnf
                  refine CallG.mk (tst3_X _) rfl ?_
                  conv => whnf
                  refine CallG.mk (is_X _) rfl ?_
                  conv => whnf
                  refine FinG.mk none ?_ (by rintro _ ⟨⟩)
                  simp only [outs, List.length_map, List.length_append, List.length_take, List.length_drop, List.length_cons, List.length_nil]
                  simp [testN, *]; omega
                · skip
                  conv => whnf
                  refine ⟨_, rfl, ?_⟩
                  conv => whnf
                  refine ⟨by omega, ?_⟩
                  conv => whnf
                  refine CallG.mk (compare_X _ _) rfl ?_
                  conv => whnf
                  refine CallG.mk (tst4_X _) rfl ?_
                  conv => whnf
                  refine CallG.mk (is_X _) rfl ?_
                  conv => whnf
                  refine FinG.mk none ?_ (by rintro _ ⟨⟩)
                  simp only [outs, List.length_map, List.length_append, List.length_take, List.length_drop, List.length_cons, List.length_nil]
                  simp [testN, *]; omega
                · skip
                  conv => whnf
                  refine ⟨_, rfl, ?_⟩
                  conv => whnf
                  refine ⟨by omega, ?_⟩
                  conv => whnf
                  refine CallG.mk (compare_X _ _) rfl ?_
                  conv => whnf
                  refine CallG.mk (tst5_X _) rfl ?_
                  conv => whnf
                  refine CallG.mk (is_X _) rfl ?_
                  conv => whnf
                  refine FinG.mk none ?_ (by rintro _ ⟨⟩)
                  simp only [outs, List.length_map, List.length_append, List.length_take, List.length_drop, List.length_cons, List.length_nil]
                  simp [testN, *]; omega
                · skip
                  conv => whnf
                  refine ⟨_, rfl, ?_⟩
                  conv => whnf
                  refine ⟨by omega, ?_⟩
                  conv => whnf
                  refine CallG.mk (compare_X _ _) rfl ?_
                  conv => whnf
                  refine CallG.mk (tst6_X _) rfl ?_
                  conv => whnf
                  refine CallG.mk (is_X _) rfl ?_
                  conv => whnf
                  refine FinG.mk none ?_ (by rintro _ ⟨⟩)
                  simp only [outs, List.length_map, List.length_append, List.length_take, List.length_drop, List.length_cons, List.length_nil]
                  simp [testN, *]; omega
            · skip
              try simp only [bls] at hc6
              conv => whnf
              refine RegG.par 10 (by kernel_rfl) ?_
              conv => whnf
              rcases (show op = 1 ∨ op = 2 ∨ op = 3 ∨ op = 4 ∨ op = 5 ∨ op = 6 by have hb := hc1; unfold bothN at hb; split at hb <;> omega) with rfl | rfl | rfl | rfl | rfl | rfl
              · skip
                conv => whnf
                refine ⟨_, rfl, ?_⟩
                conv => whnf
                refine ⟨by simp; done, ?_⟩
                conv => whnf
                refine CallG.mk (compare_X _ _) rfl ?_
                conv => whnf
                refine CallG.mk (tst1_X _) rfl ?_
                conv => whnf
                refine CallG.mk (is_X _) rfl ?_
                conv => whnf
                refine FinG.mk none ?_ (by rintro _ ⟨⟩)
                simp only [outs, List.length_map, List.length_append, List.length_take, List.length_drop, List.length_cons, List.length_nil]
                simp [testN, tstB, *]; done
              · skip
                conv => whnf
                refine ⟨_, rfl, ?_⟩
                conv => whnf
                refine ⟨by omega, ?_⟩
                conv => whnf
                refine CallG.mk (compare_X _ _) rfl ?_
                conv => whnf
                refine CallG.mk (tst2_X _) rfl ?_
                conv => whnf
                refine CallG.mk (is_X _) rfl ?_
                conv => whnf
                refine FinG.mk none ?_ (by rintro _ ⟨⟩)
                simp only [outs, List.length_map, List.length_append, List.length_take, List.length_drop, List.length_cons, List.length_nil]
                simp_all [testN]; done
              · skip
                conv => whnf
                refine ⟨_, rfl, ?_⟩
                conv => whnf
                refine ⟨by omega, ?_⟩
                conv => whnf
                refine CallG.mk (compare_X _ _) rfl ?_
                conv => whnf
                refine CallG.mk (tst3_X _) rfl ?_
                conv => whnf
                refine CallG.mk (is_X _) rfl ?_
                conv => whnf
                refine FinG.mk none ?_ (by rintro _ ⟨⟩)
                simp only [outs, List.length_map, List.length_append, List.length_take, List.length_drop, List.length_cons, List.length_nil]
                simp_all [testN]; done
              · skip
                conv => whnf
                refine ⟨_, rfl, ?_⟩
                conv => whnf
                refine ⟨by omega, ?_⟩
                conv => whnf
                refine CallG.mk (compare_X _ _) rfl ?_
                conv => whnf
                refine CallG.mk (tst4_X _) rfl ?_
                conv => whnf
                refine CallG.mk (is_X _) rfl ?_
                conv => whnf
                refine FinG.mk none ?_ (by rintro _ ⟨⟩)
                simp only [outs, List.length_map, List.length_append, List.length_take, List.length_drop, List.length_cons, List.length_nil]
                simp_all [testN]; done
              · skip
                conv => whnf
                refine ⟨_, rfl, ?_⟩
                conv => whnf
                refine ⟨by omega, ?_⟩
                conv => whnf
                refine CallG.mk (compare_X _ _) rfl ?_
                conv => whnf
                refine CallG.mk (tst5_X _) rfl ?_
                conv => whnf
                refine CallG.mk (is_X _) rfl ?_
                conv => whnf
                refine FinG.mk none ?_ (by rintro _ ⟨⟩)
                simp only [outs, List.length_map, List.length_append, List.length_take, List.length_drop, List.length_cons, List.length_nil]
                simp_all [testN]; done
              · skip
                conv => whnf
                refine ⟨_, rfl, ?_⟩
                conv => whnf
                refine ⟨by omega, ?_⟩
                conv => whnf
                refine CallG.mk (compare_X _ _) rfl ?_
                conv => whnf
                refine CallG.mk (tst6_X _) rfl ?_
                conv => whnf
                refine CallG.mk (is_X _) rfl ?_
                conv => whnf
                refine FinG.mk none ?_ (by rintro _ ⟨⟩)
                simp only [outs, List.length_map, List.length_append, List.length_take, List.length_drop, List.length_cons, List.length_nil]
                simp_all [testN]; done
      · skip
        try simp only [bls] at hc3
        conv => whnf
        refine FinG.mk none ?_ (by rintro _ ⟨⟩)
        simp only [outs, List.length_map, List.length_append, List.length_take, List.length_drop, List.length_cons, List.length_nil]
        simp_all [testN]; done
    · skip
      try simp only [bls] at hc2
      conv => whnf
      refine FinG.mk none ?_ (by rintro _ ⟨⟩)
      simp only [outs, List.length_map, List.length_append, List.length_take, List.length_drop, List.length_cons, List.length_nil]
      simp_all [testN]; done
set_option maxRecDepth 20000 in
theorem compare5_X (a b : Val) : XMeets Tryd.prog 30 [valT a, valT b] (.p (.v (.int .i64 (cmpV a b))) (nlv _)) := by
  refine XMeets.of_X tabX_ok (avs := [valX a, valX b]) [(0, valX a), (1, valX b)] (by kernel_rfl) Tryd.func30 rfl (by simp [PuL, Pu, valT]) (rfl) rfl rfl ?_
  intro B w0
  conv => whnf
  refine BinG.mk rfl rfl (eqVal_run _ _ _ _ _ _ _ _) ?_
  conv => whnf
  cases hc1 : (eqV { k := a.k, n := a.n, t := a.t } { k := b.k, n := b.n, t := b.t })
  · skip
    try simp only [bls] at hc1
    conv => whnf
    cases hc2 : (decide (a.k < b.k))
    · skip
      try simp only [bls] at hc2
      conv => whnf
      cases hc3 : (decide (a.k = b.k))
      · skip
        try simp only [bls] at hc3
        conv => whnf
        refine FinG.mk none ?_ (by rintro _ ⟨⟩)
        simp only [outs, List.length_map, List.length_append, List.length_take, List.length_drop, List.length_cons, List.length_nil]
        have he : ¬ (a.k = b.k ∧ a.n = b.n ∧ bs a.t = bs b.t) := fun h => by simp_all [eqV, bsEq]
        simp [cmpV, orN, cmpI, cmpS]
        simp_all
        omega
      · skip
        try simp only [bls] at hc3
        conv => whnf
        cases hc4 : (decide (a.n < b.n))
        · skip
          try simp only [bls] at hc4
          conv => whnf
          cases hc5 : (decide (a.n = b.n))
          · skip
            try simp only [bls] at hc5
            conv => whnf
            refine FinG.mk none ?_ (by rintro _ ⟨⟩)
            simp only [outs, List.length_map, List.length_append, List.length_take, List.length_drop, List.length_cons, List.length_nil]
            have he : ¬ (a.k = b.k ∧ a.n = b.n ∧ bs a.t = bs b.t) := fun h => by simp_all [eqV, bsEq]
            simp [cmpV, orN, cmpI, cmpS]
            simp_all
            omega
          · skip
            try simp only [bls] at hc5
            conv => whnf
            cases hc6 : (Op.bytesLess (bs a.t) (bs b.t))
            · skip
              try simp only [bls] at hc6
              conv => whnf
              refine FinG.mk none ?_ (by rintro _ ⟨⟩)
              simp only [outs, List.length_map, List.length_append, List.length_take, List.length_drop, List.length_cons, List.length_nil]
              have he : ¬ (a.k = b.k ∧ a.n = b.n ∧ bs a.t = bs b.t) := fun h => by simp_all [eqV, bsEq]
              simp_all [cmpV, orN, cmpI, cmpS]
            · skip
              try simp only [bls] at hc6
              conv => whnf
              refine FinG.mk none ?_ (by rintro _ ⟨⟩)
              simp only [outs, List.length_map, List.length_append, List.length_take, List.length_drop, List.length_cons, List.length_nil]
              have he : ¬ (a.k = b.k ∧ a.n = b.n ∧ bs a.t = bs b.t) := fun h => by simp_all [eqV, bsEq]
              simp_all [cmpV, orN, cmpI, cmpS]
        · skip
          try simp only [bls] at hc4
          conv => whnf
          refine FinG.mk none ?_ (by rintro _ ⟨⟩)
          simp only [outs, List.length_map, List.length_append, List.length_take, List.length_drop, List.length_cons, List.length_nil]
          have he : ¬ (a.k = b.k ∧ a.n = b.n ∧ bs a.t = bs b.t) := fun h => by simp_all [eqV, bsEq]
          simp_all [cmpV, orN, cmpI, cmpS]
    · skip
      try simp only [bls] at hc2
      conv => whnf
      refine FinG.mk none ?_ (by rintro _ ⟨⟩)
      simp only [outs, List.length_map, List.length_append, List.length_take, List.length_drop, List.length_cons, List.length_nil]
      have he : ¬ (a.k = b.k ∧ a.n = b.n ∧ bs a.t = bs b.t) := fun h => by simp_all [eqV, bsEq]
      simp_all [cmpV, orN, cmpI, cmpS]
  · skip
    try simp only [bls] at hc1
    conv => whnf
    refine FinG.mk none ?_ (by rintro _ ⟨⟩)
    simp only [outs, List.length_map, List.length_append, List.length_take, List.length_drop, List.length_cons, List.length_nil]
    have e0 := eqV_t hc1
    subst e0
    simp [cmpV, orN, cmpI, cmpS, bytesLess_irrefl]
set_option maxRecDepth 20000 in
theorem test5_X (op : Int) (a b : Val) : XMeets Tryd.prog 14 [.v (.int .i64 op), valT a, valT b] (.tu [.p (.v (.int .i64 (testN op a b).1)) (nlv _), .p (.v (.int .i64 (testN op a b).2)) (nlv _)]) := by
  refine XMeets.of_X tabX_ok (avs := [.p (.v (.int .i64 op)) (nlv _), valX a, valX b]) [(0, .p (.v (.int .i64 op)) (nlv _)), (1, valX a), (2, valX b)] (by kernel_rfl) Tryd.func14 rfl (by simp [PuL, Pu, valT]) (rfl) rfl rfl ?_
  intro B w0
  conv => whnf
  cases hc1 : (decide (op < 1))
  · skip
    try simp only [bls] at hc1
    conv => whnf
    cases hc2 : (decide (6 < op))
    · skip
      try simp only [bls] at hc2
      conv => whnf
      refine .ct ?_
      conv => whnf
      refine CallG.mk (right_X _) rfl ?_
      conv => whnf
      cases hc3 : (rightB a)
      · skip
        try simp only [bls] at hc3
        conv => whnf
        refine FinG.mk none ?_ (by rintro _ ⟨⟩)
        simp only [outs, List.length_map, List.length_append, List.length_take, List.length_drop, List.length_cons, List.length_nil]
        simp [testN, bothN, tstB, *]
        grind
      · skip
        try simp only [bls] at hc3
        conv => whnf
        refine .ct ?_
        conv => whnf
        refine CallG.mk (right_X _) rfl ?_
        conv => whnf
        cases hc4 : (rightB b)
        · skip
          try simp only [bls] at hc4
          conv => whnf
          refine FinG.mk none ?_ (by rintro _ ⟨⟩)
          simp only [outs, List.length_map, List.length_append, List.length_take, List.length_drop, List.length_cons, List.length_nil]
          simp [testN, bothN, tstB, *]
          grind
        · skip
          try simp only [bls] at hc4
          conv => whnf
          cases hc5 : (decide (a.k = 1))
          · skip
            try simp only [bls] at hc5
            conv => whnf
            cases hc6 : (decide (b.k = 1))
            · skip
              try simp only [bls] at hc6
              conv => whnf
              cases hc7 : (decide (a.k = b.k))
              · skip
                try simp only [bls] at hc7
                conv => whnf
                refine FinG.mk none ?_ (by rintro _ ⟨⟩)
                simp only [outs, List.length_map, List.length_append, List.length_take, List.length_drop, List.length_cons, List.length_nil]
                simp_all [testN, bothN]; done
              · skip
                try simp only [bls] at hc7
                conv => whnf
                cases hc8 : (decide (a.k = 2))
                · skip
                  try simp only [bls] at hc8
                  conv => whnf
                  refine .ct ?_
                  conv => whnf
                  refine CallG.mk (compare5_X _ _) rfl ?_
                  conv => whnf
                  cases hc9 : (decide (op = 1))
                  · skip
                    try simp only [bls] at hc9
                    conv => whnf
                    cases hc10 : (decide (op = 2))
                    · skip
                      try simp only [bls] at hc10
                      conv => whnf
                      cases hc11 : (decide (op = 3))
                      · skip
                        try simp only [bls] at hc11
                        conv => whnf
                        cases hc12 : (decide (op = 4))
                        · skip
                          try simp only [bls] at hc12
                          conv => whnf
                          cases hc13 : (decide (op = 5))
                          · skip
                            try simp only [bls] at hc13
                            conv => whnf
                            rw [show (decide (op = 6)) = true from decide_eq_true (by omega)]
                            conv => whnf
                            cases hc14 : (decide (0 ≤ cmpV a b))
                            · skip
                              try simp only [bls] at hc14
                              conv => whnf
                              refine FinG.mk none ?_ (by rintro _ ⟨⟩)
                              simp only [outs, List.length_map, List.length_append, List.length_take, List.length_drop, List.length_cons, List.length_nil]
                              simp_all [testN, bothN, tstB]; done
                            · skip
                              try simp only [bls] at hc14
                              conv => whnf
                              refine FinG.mk none ?_ (by rintro _ ⟨⟩)
                              simp only [outs, List.length_map, List.length_append, List.length_take, List.length_drop, List.length_cons, List.length_nil]
                              simp_all [testN, bothN, tstB]; done
                          · skip
                            try simp only [bls] at hc13
                            conv => whnf
                            cases hc15 : (decide (0 < cmpV a b))
                            · skip
                              try simp only [bls] at hc15
                              conv => whnf
                              rw [show (decide (op = 6)) = false from decide_eq_false (by omega)]
                              conv => whnf
                              refine FinG.mk none ?_ (by rintro _ ⟨⟩)
                              simp only [outs, List.length_map, List.length_append, List.length_take, List.length_drop, List.length_cons, List.length_nil]
                              simp_all [testN, bothN, tstB]; done
                            · skip
                              try simp only [bls] at hc15
                              conv => whnf
                              refine FinG.mk none ?_ (by rintro _ ⟨⟩)
                              simp only [outs, List.length_map, List.length_append, List.length_take, List.length_drop, List.length_cons, List.length_nil]
                              simp_all [testN, bothN, tstB]; done
                        · skip
                          try simp only [bls] at hc12
                          conv => whnf
                          cases hc16 : (decide (cmpV a b ≤ 0))
                          · skip
                            try simp only [bls] at hc16
                            conv => whnf
                            rw [show (decide (op = 5)) = false from decide_eq_false (by omega)]
                            conv => whnf
                            rw [show (decide (op = 6)) = false from decide_eq_false (by omega)]
                            conv => whnf
                            refine FinG.mk none ?_ (by rintro _ ⟨⟩)
                            simp only [outs, List.length_map, List.length_append, List.length_take, List.length_drop, List.length_cons, List.length_nil]
                            simp_all [testN, bothN, tstB]; done
                          · skip
                            try simp only [bls] at hc16
                            conv => whnf
                            refine FinG.mk none ?_ (by rintro _ ⟨⟩)
                            simp only [outs, List.length_map, List.length_append, List.length_take, List.length_drop, List.length_cons, List.length_nil]
                            simp_all [testN, bothN, tstB]; done
                      · skip
                        try simp only [bls] at hc11
                        conv => whnf
                        cases hc17 : (decide (cmpV a b < 0))
                        · skip
                          try simp only [bls] at hc17
                          conv => whnf
                          rw [show (decide (op = 4)) = false from decide_eq_false (by omega)]
                          conv => whnf
                          rw [show (decide (op = 5)) = false from decide_eq_false (by omega)]
                          conv => whnf
                          rw [show (decide (op = 6)) = false from decide_eq_false (by omega)]
                          conv => whnf
                          refine FinG.mk none ?_ (by rintro _ ⟨⟩)
                          simp only [outs, List.length_map, List.length_append, List.length_take, List.length_drop, List.length_cons, List.length_nil]
                          simp_all [testN, bothN, tstB]; done
                        · skip
                          try simp only [bls] at hc17
                          conv => whnf
                          refine FinG.mk none ?_ (by rintro _ ⟨⟩)
                          simp only [outs, List.length_map, List.length_append, List.length_take, List.length_drop, List.length_cons, List.length_nil]
                          simp_all [testN, bothN, tstB]; done
                    · skip
                      try simp only [bls] at hc10
                      conv => whnf
                      cases hc18 : (decide (cmpV a b = 0))
                      · skip
                        try simp only [bls] at hc18
                        conv => whnf
                        refine FinG.mk none ?_ (by rintro _ ⟨⟩)
                        simp only [outs, List.length_map, List.length_append, List.length_take, List.length_drop, List.length_cons, List.length_nil]
                        simp_all [testN, bothN, tstB]; done
                      · skip
                        try simp only [bls] at hc18
                        conv => whnf
                        rw [show (decide (op = 3)) = false from decide_eq_false (by omega)]
                        conv => whnf
                        rw [show (decide (op = 4)) = false from decide_eq_false (by omega)]
                        conv => whnf
                        rw [show (decide (op = 5)) = false from decide_eq_false (by omega)]
                        conv => whnf
                        rw [show (decide (op = 6)) = false from decide_eq_false (by omega)]
                        conv => whnf
                        refine FinG.mk none ?_ (by rintro _ ⟨⟩)
                        simp only [outs, List.length_map, List.length_append, List.length_take, List.length_drop, List.length_cons, List.length_nil]
                        simp_all [testN, bothN, tstB]; done
                  · skip
                    try simp only [bls] at hc9
                    conv => whnf
                    cases hc19 : (decide (cmpV a b = 0))
                    · skip
                      try simp only [bls] at hc19
                      conv => whnf
                      rw [show (decide (op = 2)) = false from decide_eq_false (by omega)]
                      conv => whnf
                      rw [show (decide (op = 3)) = false from decide_eq_false (by omega)]
                      conv => whnf
                      rw [show (decide (op = 4)) = false from decide_eq_false (by omega)]
                      conv => whnf
                      rw [show (decide (op = 5)) = false from decide_eq_false (by omega)]
                      conv => whnf
                      rw [show (decide (op = 6)) = false from decide_eq_false (by omega)]
                      conv => whnf
                      refine FinG.mk none ?_ (by rintro _ ⟨⟩)
                      simp only [outs, List.length_map, List.length_append, List.length_take, List.length_drop, List.length_cons, List.length_nil]
                      simp_all [testN, bothN, tstB]; done
                    · skip
                      try simp only [bls] at hc19
                      conv => whnf
                      refine FinG.mk none ?_ (by rintro _ ⟨⟩)
                      simp only [outs, List.length_map, List.length_append, List.length_take, List.length_drop, List.length_cons, List.length_nil]
                      simp_all [testN, bothN, tstB]; done
                · skip
                  try simp only [bls] at hc8
                  conv => whnf
                  cases hc20 : (decide (2 < op))
                  · skip
                    try simp only [bls] at hc20
                    conv => whnf
                    refine .ct ?_
                    conv => whnf
                    refine CallG.mk (compare5_X _ _) rfl ?_
                    conv => whnf
                    cases hc21 : (decide (op = 1))
                    · skip
                      try simp only [bls] at hc21
                      conv => whnf
                      rw [show (decide (op = 2)) = true from decide_eq_true (by omega)]
                      conv => whnf
                      cases hc22 : (decide (cmpV a b = 0))
                      · skip
                        try simp only [bls] at hc22
                        conv => whnf
                        refine FinG.mk none ?_ (by rintro _ ⟨⟩)
                        simp only [outs, List.length_map, List.length_append, List.length_take, List.length_drop, List.length_cons, List.length_nil]
                        simp [testN, bothN, tstB, *]
                        grind
                      · skip
                        try simp only [bls] at hc22
                        conv => whnf
                        rw [show (decide (op = 3)) = false from decide_eq_false (by omega)]
                        conv => whnf
                        rw [show (decide (op = 4)) = false from decide_eq_false (by omega)]
                        conv => whnf
                        rw [show (decide (op = 5)) = false from decide_eq_false (by omega)]
                        conv => whnf
                        rw [show (decide (op = 6)) = false from decide_eq_false (by omega)]
                        conv => whnf
                        refine FinG.mk none ?_ (by rintro _ ⟨⟩)
                        simp only [outs, List.length_map, List.length_append, List.length_take, List.length_drop, List.length_cons, List.length_nil]
                        simp [testN, bothN, tstB, *]
                        grind
                    · skip
                      try simp only [bls] at hc21
                      conv => whnf
                      cases hc23 : (decide (cmpV a b = 0))
                      · skip
                        try simp only [bls] at hc23
                        conv => whnf
                        rw [show (decide (op = 2)) = false from decide_eq_false (by omega)]
                        conv => whnf
                        rw [show (decide (op = 3)) = false from decide_eq_false (by omega)]
                        conv => whnf
                        rw [show (decide (op = 4)) = false from decide_eq_false (by omega)]
                        conv => whnf
                        rw [show (decide (op = 5)) = false from decide_eq_false (by omega)]
                        conv => whnf
                        rw [show (decide (op = 6)) = false from decide_eq_false (by omega)]
                        conv => whnf
                        refine FinG.mk none ?_ (by rintro _ ⟨⟩)
                        simp only [outs, List.length_map, List.length_append, List.length_take, List.length_drop, List.length_cons, List.length_nil]
                        grind [testN, bothN, tstB]
                      · skip
                        try simp only [bls] at hc23
                        conv => whnf
                        refine FinG.mk none ?_ (by rintro _ ⟨⟩)
                        simp only [outs, List.length_map, List.length_append, List.length_take, List.length_drop, List.length_cons, List.length_nil]
                        grind [testN, bothN, tstB]
                  · skip
                    try simp only [bls] at hc20
                    conv => whnf
                    refine FinG.mk none ?_ (by rintro _ ⟨⟩)
                    simp only [outs, List.length_map, List.length_append, List.length_take, List.length_drop, List.length_cons, List.length_nil]
                    simp [testN, bothN, tstB, *]
                    grind
            · skip
              try simp only [bls] at hc6
              conv => whnf
              refine FinG.mk none ?_ (by rintro _ ⟨⟩)
              simp only [outs, List.length_map, List.length_append, List.length_take, List.length_drop, List.length_cons, List.length_nil]
              simp_all [testN, bothN]; done
          · skip
            try simp only [bls] at hc5
            conv => whnf
            refine FinG.mk none ?_ (by rintro _ ⟨⟩)
            simp only [outs, List.length_map, List.length_append, List.length_take, List.length_drop, List.length_cons, List.length_nil]
            simp_all [testN, bothN]; done
    · skip
      try simp only [bls] at hc2
      conv => whnf
      refine FinG.mk none ?_ (by rintro _ ⟨⟩)
      simp only [outs, List.length_map, List.length_append, List.length_take, List.length_drop, List.length_cons, List.length_nil]
      simp_all [testN, bothN]; done
  · skip
    try simp only [bls] at hc1
    conv => whnf
    refine FinG.mk none ?_ (by rintro _ ⟨⟩)
    simp only [outs, List.length_map, List.length_append, List.length_take, List.length_drop, List.length_cons, List.length_nil]
    simp_all [testN, bothN]; done
def I64 (a : Int) : Prop := -9223372036854775808 ≤ a ∧ a < 9223372036854775808
theorem bvneg (u : BitVec 64) : (IntKind.i64.wrap (u.toNat : Int) < 0) = (u.msb = true) := by
  rw [wr_i64, BitVec.msb_eq_decide]
  have := u.isLt
  simp only [eq_iff_iff, decide_eq_true_eq, ge_iff_le]
  omega
theorem bvw (u : BitVec 64) : BitVec.ofInt 64 (IntKind.i64.wrap (u.toNat : Int)) = u := by
  apply BitVec.eq_of_toNat_eq
  rw [wr_i64, BitVec.toNat_ofInt]
  have := u.isLt
  omega
theorem bvi {a : Int} (h : I64 a) : (BitVec.ofInt 64 a).msb = decide (a < 0) := by
  unfold I64 at h
  rw [BitVec.msb_eq_decide, BitVec.toNat_ofInt]
  simp only [ge_iff_le, decide_eq_decide]
  omega
theorem sgn2a {a b c d : Int} (ha : I64 a) (hb : I64 b) (hc : I64 c) (hd : I64 d) : (IntKind.i64.wrap ((BitVec.ofInt 64 (IntKind.i64.wrap ((BitVec.ofInt 64 a ^^^ BitVec.ofInt 64 b).toNat : Int)) &&& BitVec.ofInt 64 (IntKind.i64.wrap ((BitVec.ofInt 64 c ^^^ BitVec.ofInt 64 d).toNat : Int))).toNat : Int) < 0) = ((¬ (a < 0 ↔ b < 0)) ∧ (¬ (c < 0 ↔ d < 0))) := by
  rw [bvw, bvw]
  refine (bvneg _).trans ?_
  rw [BitVec.msb_and, BitVec.msb_xor, BitVec.msb_xor, bvi ha, bvi hb, bvi hc, bvi hd]
  by_cases h1 : a < 0 <;> by_cases h2 : b < 0 <;> by_cases h3 : c < 0 <;> by_cases h4 : d < 0 <;> simp [h1, h2, h3, h4]
theorem sgn2 {a b c d : Int} (ha : I64 a) (hb : I64 b) (hc : I64 c) (hd : I64 d) : (IntKind.i64.wrap ((BitVec.ofInt IntKind.i64.bits (IntKind.i64.wrap ((BitVec.ofInt IntKind.i64.bits a ^^^ BitVec.ofInt IntKind.i64.bits b).toNat : Int)) &&& BitVec.ofInt IntKind.i64.bits (IntKind.i64.wrap ((BitVec.ofInt IntKind.i64.bits c ^^^ BitVec.ofInt IntKind.i64.bits d).toNat : Int))).toNat : Int) < 0) = ((¬ (a < 0 ↔ b < 0)) ∧ (¬ (c < 0 ↔ d < 0))) := sgn2a ha hb hc hd
/-- A number, or too great. -/
def fit (n : Int) : Int × Int := if -9223372036854775808 ≤ n ∧ n < 9223372036854775808 then (n, 0) else (0, 151)
theorem I64.wrap (n : Int) : I64 (IntKind.i64.wrap n) := by unfold I64; rw [wr_i64]; omega
theorem fit_in {n : Int} (h : I64 n) : fit n = (n, 0) := if_pos h
theorem fit_out {n : Int} (h : ¬ I64 n) : fit n = (0, 151) := if_neg h
theorem mul_ov {a b : Int} (ha : I64 a) (hb : I64 b) (h0 : a ≠ 0) (hq : IntKind.i64.wrap ((IntKind.i64.wrap (a * b)).tdiv a) = b) (hs : ¬ (a = -1 ∧ b = -9223372036854775808)) : IntKind.i64.wrap (a * b) = a * b ∧ I64 (a * b) := by
  have hn : I64 (IntKind.i64.wrap (a * b)) := .wrap _
  obtain ⟨n, hn0⟩ : ∃ n, IntKind.i64.wrap (a * b) = n := ⟨_, rfl⟩
  rw [hn0] at hq hn ⊢
  obtain ⟨m, hm⟩ : ∃ m, a * b = m := ⟨_, rfl⟩
  rw [hm] at hn0 ⊢
  rw [wr_i64] at hn0
  unfold I64 at *
  suffices h : n = m by exact ⟨h, h ▸ hn⟩
  by_cases h1 : a = -1
  · subst h1
    have : m = -b := by omega
    have : n.tdiv (-1) = -n := by rw [Int.tdiv_neg, Int.tdiv_one]
    rw [this, wr_i64] at hq
    omega
  · have hd := Int.mul_tdiv_add_tmod n a
    have hl : (n.tmod a).natAbs < a.natAbs := by rw [Int.natAbs_tmod]; exact Nat.mod_lt _ (by omega)
    have hq2 : n.tdiv a = b := by
      rw [wr_i64] at hq
      have h3 : (n.tdiv a).natAbs ≤ n.natAbs := by rw [Int.natAbs_tdiv]; exact Nat.div_le_self _ _
      have h4 : n.tdiv a ≠ 9223372036854775808 := by
        intro h5
        have h6 : n.natAbs.div a.natAbs = 9223372036854775808 := by
          have := Int.natAbs_tdiv n a
          rw [h5] at this
          exact this.symm
        have h7 : 2 ≤ a.natAbs ∨ a = 1 := by omega
        rcases h7 with h7 | h7
        · have h8 : n.natAbs / a.natAbs * a.natAbs ≤ n.natAbs := Nat.div_mul_le_self _ _
          have h9 : n.natAbs / a.natAbs = 9223372036854775808 := h6
          rw [h9] at h8
          have : 9223372036854775808 * 2 ≤ 9223372036854775808 * a.natAbs := Nat.mul_le_mul_left _ h7
          omega
        · subst h7; rw [Int.tdiv_one] at h5; omega
      omega
    rw [hq2, hm] at hd
    omega
theorem mul_in {a b : Int} (h0 : a ≠ 0) (h : I64 (a * b)) : IntKind.i64.wrap ((IntKind.i64.wrap (a * b)).tdiv a) = IntKind.i64.wrap b := by
  have e1 : IntKind.i64.wrap (a * b) = a * b := by unfold I64 at h; rw [wr_i64]; omega
  rw [e1, Int.mul_tdiv_cancel_left _ h0]
theorem tdiv_in {a b : Int} (ha : I64 a) (hb : I64 b) (h0 : ¬ b = 0) (h1 : ¬ b = -1) : IntKind.i64.wrap (a.tdiv b) = a.tdiv b ∧ I64 (a.tdiv b) := by
  suffices h : I64 (a.tdiv b) by
    refine ⟨?_, h⟩
    unfold I64 at h
    rw [wr_i64]; omega
  unfold I64 at *
  have h3 := Int.natAbs_tdiv a b
  have h4 : 2 ≤ b.natAbs ∨ b = 1 := by omega
  rcases h4 with h4 | h4
  · have h5 : a.natAbs / b.natAbs * b.natAbs ≤ a.natAbs := Nat.div_mul_le_self _ _
    have h6 : a.natAbs / b.natAbs * 2 ≤ a.natAbs / b.natAbs * b.natAbs := Nat.mul_le_mul_left _ h4
    have h7 : (a.tdiv b).natAbs = a.natAbs / b.natAbs := h3
    omega
  · subst h4; rw [Int.tdiv_one]; omega
def rkN (op x y : Int) : Int × Int := if op = 1 then fit (x + y) else if op = 2 then fit (x - y) else if op = 3 then fit (x * y) else if y = 0 then (0, 152) else if op = 4 then fit (x.tdiv y) else (x.tmod y, 0)
set_option maxRecDepth 20000 in
theorem add_X (a b : Int) (ha : I64 a) (hb : I64 b) : XMeets Tryd.prog 93 [.v (.int .i64 a), .v (.int .i64 b)] (.tu [.p (.v (.int .i64 (rkN 1 a b).1)) (nlv _), .p (.v (.int .i64 (rkN 1 a b).2)) (nlv _)]) := by
  refine XMeets.of_X tabX_ok (avs := [.p (.v (.int .i64 a)) (nlv _), .p (.v (.int .i64 b)) (nlv _)]) [(0, .p (.v (.int .i64 a)) (nlv _)), (1, .p (.v (.int .i64 b)) (nlv _))] (by kernel_rfl) Tryd.func93 rfl (by simp [PuL, Pu]) (rfl) rfl rfl ?_
  intro B w0
  conv => whnf
  cases hc1 : (decide (IntKind.i64.wrap (↑(BitVec.ofInt IntKind.i64.bits (IntKind.i64.wrap (↑(BitVec.ofInt IntKind.i64.bits a ^^^ BitVec.ofInt IntKind.i64.bits (IntKind.i64.wrap (a + b))).toNat : Int)) &&& BitVec.ofInt IntKind.i64.bits (IntKind.i64.wrap (↑(BitVec.ofInt IntKind.i64.bits b ^^^ BitVec.ofInt IntKind.i64.bits (IntKind.i64.wrap (a + b))).toNat : Int))).toNat : Int) < 0))
  · skip
    try simp only [bls] at hc1
    conv => whnf
    refine FinG.mk none ?_ (by rintro _ ⟨⟩)
    simp only [outs, List.length_map, List.length_append, List.length_take, List.length_drop, List.length_cons, List.length_nil]
    rw [← Int.not_lt, sgn2 ha (.wrap _) hb (.wrap _)] at hc1
    simp only [rkN, fit, wr_i64] at *
    unfold I64 at *
    simp
    split <;> simp <;> omega
  · skip
    try simp only [bls] at hc1
    conv => whnf
    refine FinG.mk none ?_ (by rintro _ ⟨⟩)
    simp only [outs, List.length_map, List.length_append, List.length_take, List.length_drop, List.length_cons, List.length_nil]
    rw [sgn2 ha (.wrap _) hb (.wrap _)] at hc1
    simp only [rkN, fit, wr_i64] at *
    unfold I64 at *
    simp
    split <;> simp <;> omega
set_option maxRecDepth 20000 in
theorem sub_X (a b : Int) (ha : I64 a) (hb : I64 b) : XMeets Tryd.prog 94 [.v (.int .i64 a), .v (.int .i64 b)] (.tu [.p (.v (.int .i64 (rkN 2 a b).1)) (nlv _), .p (.v (.int .i64 (rkN 2 a b).2)) (nlv _)]) := by
  refine XMeets.of_X tabX_ok (avs := [.p (.v (.int .i64 a)) (nlv _), .p (.v (.int .i64 b)) (nlv _)]) [(0, .p (.v (.int .i64 a)) (nlv _)), (1, .p (.v (.int .i64 b)) (nlv _))] (by kernel_rfl) Tryd.func94 rfl (by simp [PuL, Pu]) (rfl) rfl rfl ?_
  intro B w0
  conv => whnf
  cases hc1 : (decide (IntKind.i64.wrap (↑(BitVec.ofInt IntKind.i64.bits (IntKind.i64.wrap (↑(BitVec.ofInt IntKind.i64.bits a ^^^ BitVec.ofInt IntKind.i64.bits b).toNat : Int)) &&& BitVec.ofInt IntKind.i64.bits (IntKind.i64.wrap (↑(BitVec.ofInt IntKind.i64.bits a ^^^ BitVec.ofInt IntKind.i64.bits (IntKind.i64.wrap (a - b))).toNat : Int))).toNat : Int) < 0))
  · skip
    try simp only [bls] at hc1
    conv => whnf
    refine FinG.mk none ?_ (by rintro _ ⟨⟩)
    simp only [outs, List.length_map, List.length_append, List.length_take, List.length_drop, List.length_cons, List.length_nil]
    rw [← Int.not_lt, sgn2 ha hb ha (.wrap _)] at hc1
    simp only [rkN, fit, wr_i64] at *
    unfold I64 at *
    simp
    split <;> simp <;> omega
  · skip
    try simp only [bls] at hc1
    conv => whnf
    refine FinG.mk none ?_ (by rintro _ ⟨⟩)
    simp only [outs, List.length_map, List.length_append, List.length_take, List.length_drop, List.length_cons, List.length_nil]
    rw [sgn2 ha hb ha (.wrap _)] at hc1
    simp only [rkN, fit, wr_i64] at *
    unfold I64 at *
    simp
    split <;> simp <;> omega
theorem rk3_0 {b : Int} : rkN 3 0 b = (0, 0) := by simp [rkN, fit]
theorem rk3_in {a b : Int} (h : IntKind.i64.wrap (a * b) = a * b ∧ I64 (a * b)) : rkN 3 a b = (IntKind.i64.wrap (a * b), 0) := by rw [h.1]; simp only [rkN]; simp [fit_in h.2]
theorem rk3_out {a b : Int} (hb : I64 b) (h0 : a ≠ 0) (h : ¬ IntKind.i64.wrap ((IntKind.i64.wrap (a * b)).tdiv a) = b) : rkN 3 a b = (0, 151) := by
  simp only [rkN]
  simp
  refine fit_out fun h1 => h ?_
  rw [mul_in h0 h1]
  unfold I64 at hb
  rw [wr_i64]; omega
theorem rk3_sp : rkN 3 (-1) (-9223372036854775808) = (0, 151) := by decide
set_option maxRecDepth 20000 in
theorem mul_X (a b : Int) (ha : I64 a) (hb : I64 b) : XMeets Tryd.prog 95 [.v (.int .i64 a), .v (.int .i64 b)] (.tu [.p (.v (.int .i64 (rkN 3 a b).1)) (nlv _), .p (.v (.int .i64 (rkN 3 a b).2)) (nlv _)]) := by
  refine XMeets.of_X tabX_ok (avs := [.p (.v (.int .i64 a)) (nlv _), .p (.v (.int .i64 b)) (nlv _)]) [(0, .p (.v (.int .i64 a)) (nlv _)), (1, .p (.v (.int .i64 b)) (nlv _))] (by kernel_rfl) Tryd.func95 rfl (by simp [PuL, Pu]) (rfl) rfl rfl ?_
  intro B w0
  conv => whnf
  cases hc1 : (decide (a = 0))
  · skip
    try simp only [bls] at hc1
    conv => whnf
    rw [show (decide (a = 0)) = false from decide_eq_false (by omega)]
    conv => whnf
    cases hc2 : (decide (IntKind.i64.wrap ((IntKind.i64.wrap (a * b)).tdiv a) = b))
    · skip
      try simp only [bls] at hc2
      conv => whnf
      refine FinG.mk none ?_ (by rintro _ ⟨⟩)
      simp only [outs, List.length_map, List.length_append, List.length_take, List.length_drop, List.length_cons, List.length_nil]
      first | (subst_vars; simp [rk3_0, wr_i64]; done) | (rw [rk3_out hb (by assumption) (by assumption)]; simp; done) | (rw [rk3_in (mul_ov ha hb (by assumption) (by assumption) (by omega))]; simp; done) | (subst_vars; rw [rk3_sp]; simp; done)
    · skip
      try simp only [bls] at hc2
      conv => whnf
      cases hc3 : (decide (a = -1))
      · skip
        try simp only [bls] at hc3
        conv => whnf
        refine FinG.mk none ?_ (by rintro _ ⟨⟩)
        simp only [outs, List.length_map, List.length_append, List.length_take, List.length_drop, List.length_cons, List.length_nil]
        first | (subst_vars; simp [rk3_0, wr_i64]; done) | (rw [rk3_out hb (by assumption) (by assumption)]; simp; done) | (rw [rk3_in (mul_ov ha hb (by assumption) (by assumption) (by omega))]; simp; done) | (subst_vars; rw [rk3_sp]; simp; done)
      · skip
        try simp only [bls] at hc3
        conv => whnf
        cases hc4 : (decide (b = -9223372036854775808))
        · skip
          try simp only [bls] at hc4
          conv => whnf
          refine FinG.mk none ?_ (by rintro _ ⟨⟩)
          simp only [outs, List.length_map, List.length_append, List.length_take, List.length_drop, List.length_cons, List.length_nil]
          first | (subst_vars; simp [rk3_0, wr_i64]; done) | (rw [rk3_out hb (by assumption) (by assumption)]; simp; done) | (rw [rk3_in (mul_ov ha hb (by assumption) (by assumption) (by omega))]; simp; done) | (subst_vars; rw [rk3_sp]; simp; done)
        · skip
          try simp only [bls] at hc4
          conv => whnf
          refine FinG.mk none ?_ (by rintro _ ⟨⟩)
          simp only [outs, List.length_map, List.length_append, List.length_take, List.length_drop, List.length_cons, List.length_nil]
          first | (subst_vars; simp [rk3_0, wr_i64]; done) | (rw [rk3_out hb (by assumption) (by assumption)]; simp; done) | (rw [rk3_in (mul_ov ha hb (by assumption) (by assumption) (by omega))]; simp; done) | (subst_vars; rw [rk3_sp]; simp; done)
  · skip
    try simp only [bls] at hc1
    conv => whnf
    refine FinG.mk none ?_ (by rintro _ ⟨⟩)
    simp only [outs, List.length_map, List.length_append, List.length_take, List.length_drop, List.length_cons, List.length_nil]
    first | (subst_vars; simp [rk3_0, wr_i64]; done) | (rw [rk3_out hb (by assumption) (by assumption)]; simp; done) | (rw [rk3_in (mul_ov ha hb (by assumption) (by assumption) (by omega))]; simp; done) | (subst_vars; rw [rk3_sp]; simp; done)
set_option maxRecDepth 20000 in
theorem div_X (a b : Int) (ha : I64 a) (hb : I64 b) : XMeets Tryd.prog 96 [.v (.int .i64 a), .v (.int .i64 b)] (.tu [.p (.v (.int .i64 (rkN 4 a b).1)) (nlv _), .p (.v (.int .i64 (rkN 4 a b).2)) (nlv _)]) := by
  refine XMeets.of_X tabX_ok (avs := [.p (.v (.int .i64 a)) (nlv _), .p (.v (.int .i64 b)) (nlv _)]) [(0, .p (.v (.int .i64 a)) (nlv _)), (1, .p (.v (.int .i64 b)) (nlv _))] (by kernel_rfl) Tryd.func96 rfl (by simp [PuL, Pu]) (rfl) rfl rfl ?_
  intro B w0
  conv => whnf
  cases hc1 : (decide (b = 0))
  · skip
    try simp only [bls] at hc1
    conv => whnf
    cases hc2 : (decide (b = -1))
    · skip
      try simp only [bls] at hc2
      conv => whnf
      rw [show (decide (b = 0)) = false from decide_eq_false (by omega)]
      conv => whnf
      refine FinG.mk none ?_ (by rintro _ ⟨⟩)
      simp only [outs, List.length_map, List.length_append, List.length_take, List.length_drop, List.length_cons, List.length_nil]
      have := tdiv_in ha hb (by assumption) (by assumption)
      simp [rkN, *, fit_in this.2]
    · skip
      try simp only [bls] at hc2
      conv => whnf
      refine .ct ?_
      conv => whnf
      refine CallG.mk (sub_X _ _ (by unfold I64; omega) (by assumption)) rfl ?_
      conv => whnf
      refine FinG.mk none ?_ (by rintro _ ⟨⟩)
      simp only [outs, List.length_map, List.length_append, List.length_take, List.length_drop, List.length_cons, List.length_nil]
      simp [rkN, *]
  · skip
    try simp only [bls] at hc1
    conv => whnf
    refine FinG.mk none ?_ (by rintro _ ⟨⟩)
    simp only [outs, List.length_map, List.length_append, List.length_take, List.length_drop, List.length_cons, List.length_nil]
    simp [rkN, *]
set_option maxRecDepth 20000 in
theorem rem_X (a b : Int) (ha : I64 a) (hb : I64 b) : XMeets Tryd.prog 97 [.v (.int .i64 a), .v (.int .i64 b)] (.tu [.p (.v (.int .i64 (rkN 5 a b).1)) (nlv _), .p (.v (.int .i64 (rkN 5 a b).2)) (nlv _)]) := by
  refine XMeets.of_X tabX_ok (avs := [.p (.v (.int .i64 a)) (nlv _), .p (.v (.int .i64 b)) (nlv _)]) [(0, .p (.v (.int .i64 a)) (nlv _)), (1, .p (.v (.int .i64 b)) (nlv _))] (by kernel_rfl) Tryd.func97 rfl (by simp [PuL, Pu]) (rfl) rfl rfl ?_
  intro B w0
  conv => whnf
  cases hc1 : (decide (b = 0))
  · skip
    try simp only [bls] at hc1
    conv => whnf
    cases hc2 : (decide (b = -1))
    · skip
      try simp only [bls] at hc2
      conv => whnf
      rw [show (decide (b = 0)) = false from decide_eq_false (by omega)]
      conv => whnf
      refine FinG.mk none ?_ (by rintro _ ⟨⟩)
      simp only [outs, List.length_map, List.length_append, List.length_take, List.length_drop, List.length_cons, List.length_nil]
      simp [rkN, *]
    · skip
      try simp only [bls] at hc2
      conv => whnf
      refine FinG.mk none ?_ (by rintro _ ⟨⟩)
      simp only [outs, List.length_map, List.length_append, List.length_take, List.length_drop, List.length_cons, List.length_nil]
      simp [rkN, *]
  · skip
    try simp only [bls] at hc1
    conv => whnf
    refine FinG.mk none ?_ (by rintro _ ⟨⟩)
    simp only [outs, List.length_map, List.length_append, List.length_take, List.length_drop, List.length_cons, List.length_nil]
    simp [rkN, *]
def numB (v : Val) : Bool := decide (v.k = 1) || decide (v.k = 3)
/-- What an op makes of two values; the error. -/
def recN (op : Int) (a b : Val) : Val × Int := if bothN op 5 a b ≠ 0 then (⟨0, 0, ⟨#[]⟩⟩, bothN op 5 a b) else if numB a = false ∨ numB b = false then (⟨0, 0, ⟨#[]⟩⟩, 153) else if a.k = 1 ∨ b.k = 1 then (⟨1, 0, ⟨#[]⟩⟩, 0) else if (rkN op a.n b.n).2 ≠ 0 then (⟨0, 0, ⟨#[]⟩⟩, (rkN op a.n b.n).2) else (⟨3, (rkN op a.n b.n).1, ⟨#[]⟩⟩, 0)
set_option maxRecDepth 20000 in
theorem number_X (v : Val) : XMeets Tryd.prog 41 [valT v] (.p (.v (.bool (numB v))) (nlv _)) := by
  refine XMeets.of_X tabX_ok (avs := [valX v]) [(0, valX v)] (by kernel_rfl) Tryd.func41 rfl (by simp [PuL, Pu, valT]) (rfl) rfl rfl ?_
  intro B w0
  conv => whnf
  cases hc1 : (decide (v.k = 1))
  · skip
    try simp only [bls] at hc1
    conv => whnf
    refine FinG.mk none ?_ (by rintro _ ⟨⟩)
    simp only [outs, List.length_map, List.length_append, List.length_take, List.length_drop, List.length_cons, List.length_nil]
    simp_all [numB]
  · skip
    try simp only [bls] at hc1
    conv => whnf
    refine FinG.mk none ?_ (by rintro _ ⟨⟩)
    simp only [outs, List.length_map, List.length_append, List.length_take, List.length_drop, List.length_cons, List.length_nil]
    simp_all [numB]
set_option maxRecDepth 20000 in
theorem reckon_X (op : Int) (a b : Val) (ha : I64 a.n) (hb : I64 b.n) : XMeets Tryd.prog 15 [.v (.int .i64 op), valT a, valT b] (.tu [valX (recN op a b).1, .p (.v (.int .i64 (recN op a b).2)) (nlv _)]) := by
  refine XMeets.of_X tabX_ok (avs := [.p (.v (.int .i64 op)) (nlv _), valX a, valX b]) [(0, .p (.v (.int .i64 op)) (nlv _)), (1, valX a), (2, valX b)] (by kernel_rfl) Tryd.func15 rfl (by simp [PuL, Pu, valT]) (rfl) rfl rfl ?_
  intro B w0
  conv => whnf
  refine .ct ?_
  conv => whnf
  refine CallG.mk (both_X _ _ _ _) rfl ?_
  conv => whnf
  cases hc1 : (decide (bothN op 5 a b = 0))
  · skip
    try simp only [bls] at hc1
    conv => whnf
    refine FinG.mk none ?_ (by rintro _ ⟨⟩)
    simp only [outs, List.length_map, List.length_append, List.length_take, List.length_drop, List.length_cons, List.length_nil, valX]
    simp [recN, valX, outs, *]; done
  · skip
    try simp only [bls] at hc1
    conv => whnf
    refine .ct ?_
    conv => whnf
    refine CallG.mk (number_X _) rfl ?_
    conv => whnf
    cases hc2 : (numB a)
    · skip
      try simp only [bls] at hc2
      conv => whnf
      refine FinG.mk none ?_ (by rintro _ ⟨⟩)
      simp only [outs, List.length_map, List.length_append, List.length_take, List.length_drop, List.length_cons, List.length_nil, valX]
      simp [recN, valX, outs, *]; done
    · skip
      try simp only [bls] at hc2
      conv => whnf
      refine .ct ?_
      conv => whnf
      refine CallG.mk (number_X _) rfl ?_
      conv => whnf
      cases hc3 : (numB b)
      · skip
        try simp only [bls] at hc3
        conv => whnf
        refine FinG.mk none ?_ (by rintro _ ⟨⟩)
        simp only [outs, List.length_map, List.length_append, List.length_take, List.length_drop, List.length_cons, List.length_nil, valX]
        simp [recN, valX, outs, *]; done
      · skip
        try simp only [bls] at hc3
        conv => whnf
        cases hc4 : (decide (a.k = 1))
        · skip
          try simp only [bls] at hc4
          conv => whnf
          cases hc5 : (decide (b.k = 1))
          · skip
            try simp only [bls] at hc5
            conv => whnf
            refine RegG.par 13 (by kernel_rfl) ?_
            conv => whnf
            rcases (show op = 1 ∨ op = 2 ∨ op = 3 ∨ op = 4 ∨ op = 5 by have hb := hc1; unfold bothN at hb; split at hb <;> omega) with rfl | rfl | rfl | rfl | rfl
            · skip
              conv => whnf
              refine ⟨_, rfl, ?_⟩
              conv => whnf
              refine ⟨by simp; done, ?_⟩
              conv => whnf
              refine CallG.mk (add_X _ _ (by assumption) (by assumption)) rfl ?_
              conv => whnf
              cases hc6 : (decide ((rkN 1 a.n b.n).snd = 0))
              · skip
                try simp only [bls] at hc6
                conv => whnf
                refine FinG.mk none ?_ (by rintro _ ⟨⟩)
                simp only [outs, List.length_map, List.length_append, List.length_take, List.length_drop, List.length_cons, List.length_nil, valX]
                simp [recN, valX, outs, *]; done
              · skip
                try simp only [bls] at hc6
                conv => whnf
                refine .ct ?_
                conv => whnf
                refine CallG.mk (int_X _) rfl ?_
                conv => whnf
                refine FinG.mk none ?_ (by rintro _ ⟨⟩)
                simp only [outs, List.length_map, List.length_append, List.length_take, List.length_drop, List.length_cons, List.length_nil, valX]
                simp [recN, valX, outs, *]; done
            · skip
              conv => whnf
              refine ⟨_, rfl, ?_⟩
              conv => whnf
              refine ⟨by simp; done, ?_⟩
              conv => whnf
              refine CallG.mk (sub_X _ _ (by assumption) (by assumption)) rfl ?_
              conv => whnf
              cases hc7 : (decide ((rkN 2 a.n b.n).snd = 0))
              · skip
                try simp only [bls] at hc7
                conv => whnf
                refine FinG.mk none ?_ (by rintro _ ⟨⟩)
                simp only [outs, List.length_map, List.length_append, List.length_take, List.length_drop, List.length_cons, List.length_nil, valX]
                simp [recN, valX, outs, *]; done
              · skip
                try simp only [bls] at hc7
                conv => whnf
                refine .ct ?_
                conv => whnf
                refine CallG.mk (int_X _) rfl ?_
                conv => whnf
                refine FinG.mk none ?_ (by rintro _ ⟨⟩)
                simp only [outs, List.length_map, List.length_append, List.length_take, List.length_drop, List.length_cons, List.length_nil, valX]
                simp [recN, valX, outs, *]; done
            · skip
              conv => whnf
              refine ⟨_, rfl, ?_⟩
              conv => whnf
              refine ⟨by simp; done, ?_⟩
              conv => whnf
              refine CallG.mk (mul_X _ _ (by assumption) (by assumption)) rfl ?_
              conv => whnf
              cases hc8 : (decide ((rkN 3 a.n b.n).snd = 0))
              · skip
                try simp only [bls] at hc8
                conv => whnf
                refine FinG.mk none ?_ (by rintro _ ⟨⟩)
                simp only [outs, List.length_map, List.length_append, List.length_take, List.length_drop, List.length_cons, List.length_nil, valX]
                simp [recN, valX, outs, *]; done
              · skip
                try simp only [bls] at hc8
                conv => whnf
                refine .ct ?_
                conv => whnf
                refine CallG.mk (int_X _) rfl ?_
                conv => whnf
                refine FinG.mk none ?_ (by rintro _ ⟨⟩)
                simp only [outs, List.length_map, List.length_append, List.length_take, List.length_drop, List.length_cons, List.length_nil, valX]
                simp [recN, valX, outs, *]; done
            · skip
              conv => whnf
              refine ⟨_, rfl, ?_⟩
              conv => whnf
              refine ⟨by simp; done, ?_⟩
              conv => whnf
              refine CallG.mk (div_X _ _ (by assumption) (by assumption)) rfl ?_
              conv => whnf
              cases hc9 : (decide ((rkN 4 a.n b.n).snd = 0))
              · skip
                try simp only [bls] at hc9
                conv => whnf
                refine FinG.mk none ?_ (by rintro _ ⟨⟩)
                simp only [outs, List.length_map, List.length_append, List.length_take, List.length_drop, List.length_cons, List.length_nil, valX]
                simp [recN, valX, outs, *]; done
              · skip
                try simp only [bls] at hc9
                conv => whnf
                refine .ct ?_
                conv => whnf
                refine CallG.mk (int_X _) rfl ?_
                conv => whnf
                refine FinG.mk none ?_ (by rintro _ ⟨⟩)
                simp only [outs, List.length_map, List.length_append, List.length_take, List.length_drop, List.length_cons, List.length_nil, valX]
                simp [recN, valX, outs, *]; done
            · skip
              conv => whnf
              refine ⟨_, rfl, ?_⟩
              conv => whnf
              refine ⟨by simp; done, ?_⟩
              conv => whnf
              refine CallG.mk (rem_X _ _ (by assumption) (by assumption)) rfl ?_
              conv => whnf
              cases hc10 : (decide ((rkN 5 a.n b.n).snd = 0))
              · skip
                try simp only [bls] at hc10
                conv => whnf
                refine FinG.mk none ?_ (by rintro _ ⟨⟩)
                simp only [outs, List.length_map, List.length_append, List.length_take, List.length_drop, List.length_cons, List.length_nil, valX]
                simp [recN, valX, outs, *]; done
              · skip
                try simp only [bls] at hc10
                conv => whnf
                refine .ct ?_
                conv => whnf
                refine CallG.mk (int_X _) rfl ?_
                conv => whnf
                refine FinG.mk none ?_ (by rintro _ ⟨⟩)
                simp only [outs, List.length_map, List.length_append, List.length_take, List.length_drop, List.length_cons, List.length_nil, valX]
                simp [recN, valX, outs, *]; done
          · skip
            try simp only [bls] at hc5
            conv => whnf
            refine .ct ?_
            conv => whnf
            refine CallG.mk (null_X) rfl ?_
            conv => whnf
            refine FinG.mk none ?_ (by rintro _ ⟨⟩)
            simp only [outs, List.length_map, List.length_append, List.length_take, List.length_drop, List.length_cons, List.length_nil, valX]
            simp [recN, valX, outs, *]; done
        · skip
          try simp only [bls] at hc4
          conv => whnf
          refine .ct ?_
          conv => whnf
          refine CallG.mk (null_X) rfl ?_
          conv => whnf
          refine FinG.mk none ?_ (by rintro _ ⟨⟩)
          simp only [outs, List.length_map, List.length_append, List.length_take, List.length_drop, List.length_cons, List.length_nil, valX]
          simp [recN, valX, outs, *]; done
set_option maxRecDepth 20000 in
theorem size_X (n : Int) (hn : I64 n) : XMeets Tryd.prog 42 [.v (.int .i64 n)] (.p (.v (.int .u64 (if n < 0 then -n else n))) (nlv _)) := by
  refine XMeets.of_X tabX_ok (avs := [.p (.v (.int .i64 n)) (nlv _)]) [(0, .p (.v (.int .i64 n)) (nlv _))] (by kernel_rfl) Tryd.func42 rfl (by simp [PuL, Pu]) (rfl) rfl rfl ?_
  intro B w0
  unfold I64 at hn
  conv => whnf
  cases hc1 : (decide (n < 0))
  · skip
    try simp only [bls] at hc1
    conv => whnf
    refine FinG.mk none ?_ (by rintro _ ⟨⟩)
    simp only [outs, List.length_map, List.length_append, List.length_take, List.length_drop, List.length_cons, List.length_nil]
    simp [wrs, *]; omega
  · skip
    try simp only [bls] at hc1
    conv => whnf
    refine FinG.mk none ?_ (by rintro _ ⟨⟩)
    simp only [outs, List.length_map, List.length_append, List.length_take, List.length_drop, List.length_cons, List.length_nil]
    simp [wrs, *]; omega
theorem nl_by1 (l : List Int) : NlLL (l.map by1) := .map fun x _ => .cons (nlv _) .nil
theorem pu_by1 (l : List Int) : PuLL (l.map by1) := PuLL_map _ _ fun x _ => by simp [by1, PuL, Pu]
theorem fr_by1 (l : List Int) : FrLL (l.map by1) := FrLL_map _ _ fun x _ => by simp [by1, FrL, Fr]
theorem ut_by1 (l : List Int) : untagLL (l.map by1) = l.map by1 := by
  rw [untagLL_map]; exact List.map_congr_left fun x _ => rfl
theorem ap_by1 (l : List Int) : ApOk 1 (l.map by1) := fun c hc => by
  obtain ⟨x, _, rfl⟩ := List.mem_map.1 hc
  exact ⟨rfl, rfl⟩
def byt (x : Int) (j : Nat) : Int := x / 2 ^ (8 * (7 - j)) % 256
def beN (x : Int) (j : Nat) : List Int := (List.range j).map (byt x)
theorem beN_len (x : Int) (j : Nat) : (beN x j).length = j := by simp [beN]
theorem app_be (l : List Int) (x : Int) (j : Nat) (hj : j < 8) : (l ++ beN x j).map by1 ++ [[.v (.int .u8 (IntKind.u8.wrap (x.fdiv (2 ^ min (56 - 8 * (j : Int)).toNat IntKind.u64.bits))))]] = (l ++ beN x (j + 1)).map by1 := by
  have e1 : min (56 - 8 * (j : Int)).toNat IntKind.u64.bits = 8 * (7 - j) := by simp only [IntKind.bits]; omega
  have e2 : x.fdiv (2 ^ (8 * (7 - j))) = x / 2 ^ (8 * (7 - j)) := Int.fdiv_eq_ediv_of_nonneg _ (Int.le_of_lt (Int.pow_pos (by decide)))
  rw [e1, e2, wr_u8]
  simp [beN, List.range_succ, by1, byt]
theorem app_cp (l : List Int) (c : List TV) : List.map by1 l ++ List.drop (List.map by1 l).length (List.replicate l.length c) = (l ++ beN 0 0).map by1 := by
  rw [List.drop_eq_nil_of_le (by simp)]
  simp [beN]
set_option maxRecDepth 20000 in
theorem put_X (b : Bool) (l : List Int) (x : Int) (hl : l.length ≤ 100000000) : XMeets Tryd.prog 64 [.sl b ((l).map by1), .v (.int .u64 x), .v (.int .i64 8)] (.ow 5 1 ((l ++ beN x 8).map by1) (nl_by1 _)) := by
  refine XMeets.of_X tabX_ok (avs := [.p (.sl false ((l).map by1)) ((nl_by1 _).sl), .p (.v (.int .u64 x)) (nlv _), .p (.v (.int .i64 8)) (nlv _)]) [(0, .p (.sl false ((l).map by1)) ((nl_by1 _).sl)), (1, .p (.v (.int .u64 x)) (nlv _)), (2, .p (.v (.int .i64 8)) (nlv _))] (by kernel_rfl) Tryd.func64 rfl (by simp [PuL, Pu, pu_by1]) (by simp only [untagL, untag, ut_by1]; rfl) rfl rfl ?_
  intro B w0
  conv => whnf
  refine ⟨l.length, l.length + 8, by simp, by simp only [wrs, List.length_map]; omega, by omega, (by show (l.length + 8) * 1 ≤ 140737488355328; omega), by omega, ?_⟩
  conv => whnf
  refine ⟨ap_by1 _, ?_⟩
  conv => whnf
  refine ⟨by simp only [List.length_map, List.length_append, beN_len, List.length_cons, List.length_nil, List.length_replicate, List.length_drop]; omega, ?_⟩
  conv => whnf
  refine XT.loop tabX_ok (Y := Nat) [7, 8, 15, 16, 22, 23, 24, 25, 26, 27, 28, 29, 30, 31, 32] (fun j => [(7, .row 0), (8, .p (.v (.int .i64 (56 - 8 * (j : Int)))) (nlv _))]) (fun j => [(0, .row 5 1 ((l ++ beN x j).map by1) (nl_by1 _))]) (fun j => j ≤ 8) (fun j => 8 - j) 0 (Nat.zero_le _) ?_ ?_
  · skip
    refine ⟨?_, ?_, ?_⟩
    · skip
      repeat ((conv => whnf); first | exact True.intro | refine ⟨.rfl, ?_⟩ | refine ⟨.any, ?_⟩ | refine ⟨.nil, ?_⟩ | refine ⟨.int (by first | rfl | omega | (simp only [wrs]; omega)), ?_⟩)
    · skip
      repeat (first | exact LeVs.nil | ((conv => whnf); first | exact True.intro | exact .none | exact .row rfl | exact .row (app_cp _ _) | exact .row (app_be _ _ _ (by omega)) | refine .cells ?_ | refine ⟨_, _, rfl, .rfl, ?_⟩ | refine ⟨_, _, rfl, .any, ?_⟩ | refine ⟨_, _, rfl, .nil, ?_⟩ | refine ⟨_, _, rfl, .int (by first | rfl | omega | (simp only [wrs]; omega)), ?_⟩ | refine ⟨?_, ?_⟩))
    · skip
      repeat (first | exact LeFr.nil | ((conv => whnf); first | exact True.intro | refine ⟨.rfl, ?_⟩ | refine ⟨_, _, rfl, rfl, ?_, ?_⟩))
  · skip
    rintro j hj
    conv => whnf
    cases hc1 : (decide (0 ≤ 56 - 8 * (↑j : Int)))
    · skip
      try simp only [bls] at hc1
      conv => whnf
      refine FinG.mk (some 0) ?_ (by rintro _ ⟨⟩; trivial)
      simp only [outs, List.length_map, List.length_append, List.length_take, List.length_drop, List.length_cons, List.length_nil, beN_len]
      obtain rfl : j = 8 := by omega
      exact ⟨rfl, fr_by1 _⟩
    · skip
      try simp only [bls] at hc1
      conv => whnf
      rw [show (decide (0 ≤ 56 - 8 * (↑j : Int))) = true from decide_eq_true (by omega)]
      conv => whnf
      refine ⟨ApOk.lit rfl, ?_⟩
      conv => whnf
      refine ⟨by simp only [List.length_map, List.length_append, beN_len, List.length_cons, List.length_nil, List.length_replicate, List.length_drop]; omega, ?_⟩
      conv => whnf
      refine ⟨(j + 1), by omega, by omega, ?_⟩
      refine ⟨?_, ?_, ?_⟩
      · skip
        repeat ((conv => whnf); first | exact True.intro | refine ⟨.rfl, ?_⟩ | refine ⟨.any, ?_⟩ | refine ⟨.nil, ?_⟩ | refine ⟨.int (by first | rfl | omega | (simp only [wrs]; omega)), ?_⟩)
      · skip
        repeat (first | exact LeVs.nil | ((conv => whnf); first | exact True.intro | exact .none | exact .row rfl | exact .row (app_cp _ _) | exact .row (app_be _ _ _ (by omega)) | refine .cells ?_ | refine ⟨_, _, rfl, .rfl, ?_⟩ | refine ⟨_, _, rfl, .any, ?_⟩ | refine ⟨_, _, rfl, .nil, ?_⟩ | refine ⟨_, _, rfl, .int (by first | rfl | omega | (simp only [wrs]; omega)), ?_⟩ | refine ⟨?_, ?_⟩))
      · skip
        repeat (first | exact LeFr.nil | ((conv => whnf); first | exact True.intro | refine ⟨.rfl, ?_⟩ | refine ⟨_, _, rfl, rfl, ?_, ?_⟩))
def bi (u : ByteArray) : List Int := (bs u).map fun c => (c.toNat : Int)
def esc1 (c : Int) : List Int := if c = 0 then [0, 255] else [c]
def escT (u : ByteArray) (k : Nat) : List Int := ((bi u).take k).flatMap esc1
theorem bi_len (u : ByteArray) : (bi u).length = u.size := by rw [bi, List.length_map, bs_size]
theorem str_at {u : ByteArray} {k : Nat} (h : k < u.size) : u[k]? = some ((bs u).getD k 0) := by
  have h2 : k < u.data.size := h
  rw [getElem?_pos u k h]
  congr 1
  show u.data[k] = _
  simp [bs, List.getD, Array.getElem?_eq_getElem h2]
theorem escT_succ {u : ByteArray} {k : Nat} (h : k < u.size) : escT u (k + 1) = escT u k ++ esc1 (((bs u).getD k 0).toNat : Int) := by
  have h2 : k < (bi u).length := by rw [bi_len]; exact h
  have h3 : (bi u)[k]? = some (((bs u).getD k 0).toNat : Int) := by
    have : k < (bs u).length := by rw [bs_size]; exact h
    simp [bi, List.getD, this]
  rw [escT, escT, List.take_add_one, h3, List.flatMap_append]
  simp
theorem escT_all (u : ByteArray) : escT u u.size = (bi u).flatMap esc1 := by rw [escT, List.take_of_length_le (by rw [bi_len]; exact Nat.le_refl _)]
theorem escT_len (u : ByteArray) (k : Nat) : (escT u k).length ≤ 2 * k := by
  have key : ∀ l : List Int, (l.flatMap esc1).length ≤ 2 * l.length := by
    intro l
    induction l with
    | nil => simp
    | cons x l ih =>
      have : (esc1 x).length ≤ 2 := by unfold esc1; split <;> simp
      rw [List.flatMap_cons, List.length_append, List.length_cons]; omega
  refine Nat.le_trans (key _) ?_
  have := List.length_take_le k (bi u)
  omega
theorem xor63 {n : Int} (h : I64 n) : IntKind.u64.wrap ((BitVec.ofInt IntKind.u64.bits (IntKind.u64.wrap n) ^^^ BitVec.ofInt IntKind.u64.bits 9223372036854775808).toNat : Int) = n + 9223372036854775808 := by
  have key : ∀ y : Nat, y < 2 ^ 63 → (2 ^ 63 + y) ^^^ 2 ^ 63 = y ∧ y ^^^ 2 ^ 63 = 2 ^ 63 + y := by
    intro y hy
    have h2 : y ^^^ 2 ^ 63 = 2 ^ 63 + y := by
      apply Nat.eq_of_testBit_eq
      intro j
      have := Nat.testBit_two_pow_mul_add (a := 1) hy j
      rw [Nat.mul_one] at this
      rw [this, Nat.testBit_xor, Nat.testBit_two_pow]
      by_cases hj : j < 63
      · have : ¬ 63 = j := by omega
        simp [hj, this]
      · have h3 : y.testBit j = false := Nat.testBit_lt_two_pow (Nat.lt_of_lt_of_le hy (Nat.pow_le_pow_right (by decide) (by omega)))
        rw [if_neg hj, h3]
        by_cases he : 63 = j
        · subst he; simp
        · have : ¬ j - 63 = 0 := by omega
          rw [Nat.testBit_lt_two_pow (Nat.one_lt_two_pow this)]; simp [he]
    exact ⟨by rw [← h2, Nat.xor_assoc, Nat.xor_self, Nat.xor_zero], h2⟩
  show IntKind.u64.wrap ((BitVec.ofInt 64 (IntKind.u64.wrap n) ^^^ BitVec.ofInt 64 9223372036854775808).toNat : Int) = _
  rw [BitVec.toNat_xor, BitVec.toNat_ofInt, BitVec.toNat_ofInt, wr_u64, wr_u64]
  unfold I64 at h
  have e1 : ((9223372036854775808 : Int) % ((2 ^ 64 : Nat) : Int)).toNat = 2 ^ 63 := by decide
  rw [e1]
  by_cases hn : 0 ≤ n
  · have e2 : (n % 18446744073709551616 % ((2 ^ 64 : Nat) : Int)).toNat = n.toNat := by omega
    rw [e2, (key n.toNat (by omega)).2]
    omega
  · have e2 : (n % 18446744073709551616 % ((2 ^ 64 : Nat) : Int)).toNat = 2 ^ 63 + (n + 9223372036854775808).toNat := by omega
    rw [e2, (key _ (by omega)).1]
    omega
/-- A value's bytes. -/
def encB (v : Val) : List Int := IntKind.u8.wrap v.k :: (if v.k = 2 then [IntKind.u8.wrap v.n] else if v.k = 3 then beN (v.n + 9223372036854775808) 8 else if v.k = 4 then (bi v.t).flatMap esc1 ++ [0, 0] else [])
def encV (v : Val) : List Int := if rightB v then encB v else []
theorem esc_0 {k : Int} {u : ByteArray} : [[TV.v (.int .u8 (IntKind.u8.wrap k))]] = (IntKind.u8.wrap k :: escT u 0).map by1 := by simp [escT, by1]
theorem esc_z {k : Int} {u : ByteArray} {j : Nat} (h : j < u.size) (hz : (((bs u).getD j 0).toNat : Int) = 0) : (IntKind.u8.wrap k :: escT u j).map by1 ++ [[TV.v (.int .u8 (((bs u).getD j 0).toNat : Int))]] ++ [[TV.v (.int .u8 255)]] = (IntKind.u8.wrap k :: escT u (j + 1)).map by1 := by
  rw [escT_succ h, hz]; simp [by1, esc1]
theorem esc_c {k : Int} {u : ByteArray} {j : Nat} (h : j < u.size) (hz : ¬ (((bs u).getD j 0).toNat : Int) = 0) : (IntKind.u8.wrap k :: escT u j).map by1 ++ [[TV.v (.int .u8 (((bs u).getD j 0).toNat : Int))]] = (IntKind.u8.wrap k :: escT u (j + 1)).map by1 := by
  rw [escT_succ h]
  generalize (((bs u).getD j 0).toNat : Int) = c at hz ⊢
  simp [by1, esc1, hz]
set_option maxRecDepth 20000 in
theorem put64_X (b : Bool) (l : List Int) (x : Int) (hl : l.length ≤ 100000000) : XMeets Tryd.prog 53 [.sl b ((l).map by1), .v (.int .u64 x)] (.ow 5 1 ((l ++ beN x 8).map by1) (nl_by1 _)) := by
  refine XMeets.of_X tabX_ok (avs := [.p (.sl false ((l).map by1)) ((nl_by1 _).sl), .p (.v (.int .u64 x)) (nlv _)]) [(0, .p (.sl false ((l).map by1)) ((nl_by1 _).sl)), (1, .p (.v (.int .u64 x)) (nlv _))] (by kernel_rfl) Tryd.func53 rfl (by simp [PuL, Pu, pu_by1]) (by simp only [untagL, untag, ut_by1]; rfl) rfl rfl ?_
  intro B w0
  conv => whnf
  refine .ct ?_
  conv => whnf
  refine CallG.mk (put_X _ _ _ hl) rfl ?_
  conv => whnf
  refine FinG.mk (some 0) ?_ (by rintro _ ⟨⟩; trivial)
  simp only [outs, List.length_map, List.length_append, List.length_take, List.length_drop, List.length_cons, List.length_nil, fr_by1]
set_option maxRecDepth 20000 in
theorem encode_X (v : Val) (hn : I64 v.n) : XMeets Tryd.prog 19 [valT v] (.tu [.ow 5 1 ((encV v).map by1) (nl_by1 _), .p (.v (.int .i64 (checkN v))) (nlv _)]) := by
  refine XMeets.of_X tabX_ok (avs := [valX v]) [(0, valX v)] (by kernel_rfl) Tryd.func19 rfl (by simp [PuL, Pu, valT]) (rfl) rfl rfl ?_
  intro B w0
  have h64 : checkN v = 0 → v.k = 4 → v.t.size ≤ 64 := fun h h4 => by rw [checkN_0] at h; simp [rightB, h4] at h; exact h.2
  conv => whnf
  refine .ct ?_
  conv => whnf
  refine CallG.mk (check_X _) rfl ?_
  conv => whnf
  cases hc1 : (decide (checkN v = 0))
  · skip
    try simp only [bls] at hc1
    conv => whnf
    refine FinG.mk none ?_ (by rintro _ ⟨⟩)
    simp only [outs, List.length_map, List.length_append, List.length_take, List.length_drop, List.length_cons, List.length_nil, fr_by1]
    simp only [checkN_0] at hc1
    simp [encV, hc1]
  · skip
    try simp only [bls] at hc1
    conv => whnf
    cases hc2 : (decide (v.k = 2))
    · skip
      try simp only [bls] at hc2
      conv => whnf
      cases hc3 : (decide (v.k = 3))
      · skip
        try simp only [bls] at hc3
        conv => whnf
        cases hc4 : (decide (v.k = 4))
        · skip
          try simp only [bls] at hc4
          conv => whnf
          refine FinG.mk (some 1) ?_ (by rintro _ ⟨⟩; trivial)
          simp only [outs, List.length_map, List.length_append, List.length_take, List.length_drop, List.length_cons, List.length_nil, fr_by1]
          have hr := hc1
          simp only [checkN_0] at hr
          simp [encV, encB, hr, hc1, by1, *]
        · skip
          try simp only [bls] at hc4
          conv => whnf
          refine XT.loop tabX_ok (Y := Nat) [5, 6, 15, 39, 40, 41, 42, 43, 44, 45, 46, 47, 48, 49, 50, 51, 52, 53, 54, 55, 56, 57] (fun k => [(39, .p (.v (.int .i64 k)) (nlv _)), (5, .row 1)]) (fun k => [(1, .row 5 1 ((IntKind.u8.wrap v.k :: escT v.t k).map by1) (nl_by1 _))]) (fun k => k ≤ v.t.size) (fun k => v.t.size - k) 0 (Nat.zero_le _) ?_ ?_
          · skip
            refine ⟨?_, ?_, ?_⟩
            · skip
              repeat ((conv => whnf); first | exact True.intro | refine ⟨.rfl, ?_⟩ | refine ⟨.any, ?_⟩ | refine ⟨.nil, ?_⟩ | refine ⟨.int (by first | rfl | omega | (simp only [wrs]; omega)), ?_⟩)
            · skip
              repeat (first | exact LeVs.nil | ((conv => whnf); first | exact True.intro | exact .none | exact .row rfl | exact .row (esc_0) | exact .row (esc_z (by omega) (by assumption)) | exact .row (esc_c (by omega) (by assumption)) | refine .cells ?_ | refine ⟨_, _, rfl, .rfl, ?_⟩ | refine ⟨_, _, rfl, .any, ?_⟩ | refine ⟨_, _, rfl, .nil, ?_⟩ | refine ⟨_, _, rfl, .int (by first | rfl | omega | (simp only [wrs]; omega)), ?_⟩ | refine ⟨?_, ?_⟩))
            · skip
              repeat (first | exact LeFr.nil | ((conv => whnf); first | exact True.intro | refine ⟨.rfl, ?_⟩ | refine ⟨_, _, rfl, rfl, ?_, ?_⟩))
          · skip
            rintro k hk
            have hsz := h64 (by assumption) (by assumption)
            conv => whnf
            cases hc5 : (decide ((↑k : Int) < (↑v.t.size : Int)))
            · skip
              try simp only [bls] at hc5
              conv => whnf
              refine ⟨ApOk.lit rfl, ?_⟩
              conv => whnf
              refine ⟨by have := escT_len v.t k; simp only [List.length_map, List.length_append, List.length_cons, List.length_nil]; omega, ?_⟩
              conv => whnf
              refine FinG.mk (some 1) ?_ (by rintro _ ⟨⟩; trivial)
              simp only [outs, List.length_map, List.length_append, List.length_take, List.length_drop, List.length_cons, List.length_nil, fr_by1]
              have hr := hc1
              simp only [checkN_0] at hr
              obtain rfl : k = v.t.size := by omega
              simp [encV, encB, hr, hc1, escT_all, by1, *]
            · skip
              try simp only [bls] at hc5
              conv => whnf
              refine ⟨k, _, str_at (by omega), rfl, ?_⟩
              conv => whnf
              refine ⟨ApOk.lit rfl, ?_⟩
              conv => whnf
              refine ⟨by have := escT_len v.t k; simp only [List.length_map, List.length_append, List.length_cons, List.length_nil]; omega, ?_⟩
              conv => whnf
              refine ⟨k, _, str_at (by omega), rfl, ?_⟩
              conv => whnf
              cases hc6 : (decide ((↑((bs v.t).getD k 0).toNat : Int) = 0))
              · skip
                try simp only [bls] at hc6
                conv => whnf
                refine ⟨(k + 1), by omega, by omega, ?_⟩
                refine ⟨?_, ?_, ?_⟩
                · skip
                  repeat ((conv => whnf); first | exact True.intro | refine ⟨.rfl, ?_⟩ | refine ⟨.any, ?_⟩ | refine ⟨.nil, ?_⟩ | refine ⟨.int (by first | rfl | omega | (simp only [wrs]; omega)), ?_⟩)
                · skip
                  repeat (first | exact LeVs.nil | ((conv => whnf); first | exact True.intro | exact .none | exact .row rfl | exact .row (esc_0) | exact .row (esc_z (by omega) (by assumption)) | exact .row (esc_c (by omega) (by assumption)) | refine .cells ?_ | refine ⟨_, _, rfl, .rfl, ?_⟩ | refine ⟨_, _, rfl, .any, ?_⟩ | refine ⟨_, _, rfl, .nil, ?_⟩ | refine ⟨_, _, rfl, .int (by first | rfl | omega | (simp only [wrs]; omega)), ?_⟩ | refine ⟨?_, ?_⟩))
                · skip
                  repeat (first | exact LeFr.nil | ((conv => whnf); first | exact True.intro | refine ⟨.rfl, ?_⟩ | refine ⟨_, _, rfl, rfl, ?_, ?_⟩))
              · skip
                try simp only [bls] at hc6
                conv => whnf
                refine ⟨ApOk.lit rfl, ?_⟩
                conv => whnf
                refine ⟨by have := escT_len v.t k; simp only [List.length_map, List.length_append, List.length_cons, List.length_nil]; omega, ?_⟩
                conv => whnf
                refine ⟨(k + 1), by omega, by omega, ?_⟩
                refine ⟨?_, ?_, ?_⟩
                · skip
                  repeat ((conv => whnf); first | exact True.intro | refine ⟨.rfl, ?_⟩ | refine ⟨.any, ?_⟩ | refine ⟨.nil, ?_⟩ | refine ⟨.int (by first | rfl | omega | (simp only [wrs]; omega)), ?_⟩)
                · skip
                  repeat (first | exact LeVs.nil | ((conv => whnf); first | exact True.intro | exact .none | exact .row rfl | exact .row (esc_0) | exact .row (esc_z (by omega) (by assumption)) | exact .row (esc_c (by omega) (by assumption)) | refine .cells ?_ | refine ⟨_, _, rfl, .rfl, ?_⟩ | refine ⟨_, _, rfl, .any, ?_⟩ | refine ⟨_, _, rfl, .nil, ?_⟩ | refine ⟨_, _, rfl, .int (by first | rfl | omega | (simp only [wrs]; omega)), ?_⟩ | refine ⟨?_, ?_⟩))
                · skip
                  repeat (first | exact LeFr.nil | ((conv => whnf); first | exact True.intro | refine ⟨.rfl, ?_⟩ | refine ⟨_, _, rfl, rfl, ?_, ?_⟩))
      · skip
        try simp only [bls] at hc3
        conv => whnf
        refine .ct ?_
        conv => whnf
        refine CallG.mk (put64_X _ [_] _ (by simp)) rfl ?_
        conv => whnf
        refine FinG.mk (some 2) ?_ (by rintro _ ⟨⟩; trivial)
        simp only [outs, List.length_map, List.length_append, List.length_take, List.length_drop, List.length_cons, List.length_nil, fr_by1]
        have hr := hc1
        simp only [checkN_0] at hr
        rw [xor63 hn]
        simp [encV, encB, hr, hc1, by1, *]
    · skip
      try simp only [bls] at hc2
      conv => whnf
      refine ⟨ApOk.lit rfl, ?_⟩
      conv => whnf
      refine ⟨by simp only [List.length_map, List.length_append, beN_len, List.length_cons, List.length_nil, List.length_replicate, List.length_drop]; omega, ?_⟩
      conv => whnf
      refine FinG.mk (some 1) ?_ (by rintro _ ⟨⟩; trivial)
      simp only [outs, List.length_map, List.length_append, List.length_take, List.length_drop, List.length_cons, List.length_nil, fr_by1]
      have hr := hc1
      simp only [checkN_0] at hr
      simp [encV, encB, hr, hc1, by1, *]
set_option maxRecDepth 20000 in
theorem left_X (b : Bool) (l : List Int) (a e : Int) : XMeets Tryd.prog 51 [.eptr [.sl b (l.map by1), .v (.int .i64 a), .v (.int .i64 e)]] (.p (.v (.int .i64 (IntKind.i64.wrap (l.length - a)))) (nlv _)) := by
  refine XMeets.of_X tabX_ok (avs := [.p (.eptr [.sl false (l.map by1), .v (.int .i64 a), .v (.int .i64 e)]) (NlL.eptr (.cons (nl_by1 _).sl (.cons (nlv _) (.cons (nlv _) .nil))))]) [(0, .p (.eptr [.sl false (l.map by1), .v (.int .i64 a), .v (.int .i64 e)]) (NlL.eptr (.cons (nl_by1 _).sl (.cons (nlv _) (.cons (nlv _) .nil)))))] (by kernel_rfl) Tryd.func51 rfl (by simp [PuL, Pu, pu_by1]) (by simp only [untagL, untag, ut_by1]; rfl) rfl rfl ?_
  intro B w0
  conv => whnf
  refine RegG.par 13 (by kernel_rfl) ?_
  conv => whnf
  refine FinG.mk none ?_ (by rintro _ ⟨⟩)
  simp only [outs, List.length_map, List.length_append, List.length_take, List.length_drop, List.length_cons, List.length_nil, fr_by1]
def isB1 (l : List Int) : Prop := ∀ c ∈ l, 0 ≤ c ∧ c < 256
theorem isB1.at_ {l : List Int} (h : isB1 l) {k : Nat} {x : Int} (hx : l[k]? = some x) : 0 ≤ x ∧ x < 256 := h x (List.mem_of_getElem? hx)
theorem isB1.take {l : List Int} (h : isB1 l) (k : Nat) : isB1 (l.take k) := fun c hc => h c (List.mem_of_mem_take hc)
theorem isB1.drop {l : List Int} (h : isB1 l) (k : Nat) : isB1 (l.drop k) := fun c hc => h c (List.mem_of_mem_drop hc)
/-- The number of the first k bytes. -/
def numL (r : List Int) (k : Nat) : Int := (r.take k).foldl (fun x c => 256 * x + c) 0
theorem numL_0 (r : List Int) : numL r 0 = 0 := rfl
theorem numL_succ {r : List Int} {k : Nat} {x : Int} (h : r[k]? = some x) : numL r (k + 1) = 256 * numL r k + x := by
  rw [numL, numL, List.take_add_one, h, List.foldl_append]; rfl
theorem numL_lt {r : List Int} (h : isB1 r) : ∀ k, 0 ≤ numL r k ∧ numL r k < 256 ^ k
  | 0 => by simp [numL_0]
  | k + 1 => by
    have ih := numL_lt h k
    cases hx : r[k]? with
    | none =>
      have : numL r (k + 1) = numL r k := by rw [numL, numL, List.take_add_one, hx]; simp
      rw [this, Int.pow_succ]; omega
    | some x =>
      have := h.at_ hx
      rw [numL_succ hx, Int.pow_succ]; omega
theorem or8 {x c : Int} (hx : 0 ≤ x) (hx2 : x < 72057594037927936) (hc : 0 ≤ c) (hc2 : c < 256) : IntKind.u64.wrap ((BitVec.ofInt IntKind.u64.bits (IntKind.u64.wrap (x * 2 ^ min (Int.toNat 8) IntKind.u64.bits)) ||| BitVec.ofInt IntKind.u64.bits (IntKind.u64.wrap c)).toNat : Int) = 256 * x + c := by
  show IntKind.u64.wrap ((BitVec.ofInt 64 (IntKind.u64.wrap (x * 256)) ||| BitVec.ofInt 64 (IntKind.u64.wrap c)).toNat : Int) = _
  simp only [wr_u64]
  rw [BitVec.toNat_or, BitVec.toNat_ofInt, BitVec.toNat_ofInt]
  have e1 : (x * 256 % 18446744073709551616 % ((2 ^ 64 : Nat) : Int)).toNat = 2 ^ 8 * x.toNat := by omega
  have e2 : (c % 18446744073709551616 % ((2 ^ 64 : Nat) : Int)).toNat = c.toNat := by omega
  rw [e1, e2, ← Nat.two_pow_add_eq_or_of_lt (show c.toNat < 2 ^ 8 by omega)]
  omega
theorem num_step {r : List Int} (h : isB1 r) {k : Nat} {x : Int} (hx : r[k]? = some x) (hk : k < 8) (hr : r.length ≤ 8) : IntKind.u64.wrap ((BitVec.ofInt IntKind.u64.bits (IntKind.u64.wrap (numL r k * 2 ^ min (Int.toNat 8) IntKind.u64.bits)) ||| BitVec.ofInt IntKind.u64.bits (IntKind.u64.wrap x)).toNat : Int) = numL r (k + 1) := by
  have h1 := numL_lt h k
  have h2 := h.at_ hx
  have h3 : (256 : Int) ^ k ≤ 256 ^ 7 := by
    have : (256 : Nat) ^ k ≤ 256 ^ 7 := Nat.pow_le_pow_right (by decide) (by omega)
    exact_mod_cast this
  rw [or8 h1.1 (by have : (256 : Int) ^ 7 = 72057594037927936 := by decide
                   omega) h2.1 h2.2, numL_succ hx]
/-- What a text's bytes are read as: the error, the text, how many. -/
def scan : List Int → List Int → Nat → Int × List Int × Nat
  | [], _, _ => (7, [], 0)
  | [c], out, m => if c = 0 then (7, [], 0) else if out.length = 64 then (150, [], 0) else (7, [], 0)
  | c :: d :: r, out, m => if c = 0 then (if d = 0 then (0, out, m + 2) else if d ≠ 255 then (150, [], 0) else if out.length = 64 then (150, [], 0) else scan r (out ++ [0]) (m + 2)) else if out.length = 64 then (150, [], 0) else scan (d :: r) (out ++ [c]) (m + 1)
def val0 : Val := ⟨0, 0, ⟨#[]⟩⟩
/-- The value with whose bytes others begin; how many; the error. -/
def decP (l : List Int) : Val × Int × Int := match l with
  | [] => (val0, 0, 7)
  | k :: r => if k = 1 then (⟨1, 0, ⟨#[]⟩⟩, 1, 0) else if k = 2 then (match r with | [] => (val0, 0, 7) | c :: _ => if 1 < c then (val0, 0, 150) else (⟨2, c, ⟨#[]⟩⟩, 2, 0)) else if k = 3 then (if r.length < 8 then (val0, 0, 7) else (⟨3, numL r 8 - 9223372036854775808, ⟨#[]⟩⟩, 9, 0)) else if k = 4 then (if (scan r [] 1).1 = 0 then (⟨4, 0, strOfNums (scan r [] 1).2.1⟩, (scan r [] 1).2.2, 0) else (val0, 0, (scan r [] 1).1)) else (val0, 0, 150)
theorem len_by1 (l : List Int) : ∀ c ∈ l.map by1, c.length = 1 := fun c hc => (ap_by1 l c hc).1
set_option maxRecDepth 20000 in
theorem decode9_X (b : Bool) : XMeets Tryd.prog 17 [.sl b (([3, 127, 255, 255, 255, 255, 255, 255, 255]).map by1)] (.tu [valX ⟨3, -1, ⟨#[]⟩⟩, .p (.v (.int .i64 9)) (nlv _), .p (.v (.int .i64 0)) (nlv _)]) := by
  refine XMeets.of_X tabX_ok (avs := [.p (.sl false (([3, 127, 255, 255, 255, 255, 255, 255, 255]).map by1)) ((nl_by1 _).sl)]) [(0, .p (.sl false (([3, 127, 255, 255, 255, 255, 255, 255, 255]).map by1)) ((nl_by1 _).sl))] (by kernel_rfl) Tryd.func17 rfl (⟨pu_by1 _, trivial⟩) (rfl) rfl rfl ?_
  intro B w0
  have hB : isB1 [3, 127, 255, 255, 255, 255, 255, 255, 255] := by unfold isB1; decide
  conv => whnf
  refine .inl ?_
  conv => whnf
  refine InlG.mk (by kernel_rfl) Tryd.func46 rfl (Nat.le_of_ble_eq_true rfl) (XT.of tabX_ok ?_)
  conv => whnf
  refine ⟨.inr rfl, ?_⟩
  conv => whnf
  refine .inl ?_
  conv => whnf
  refine InlG.mk (by kernel_rfl) Tryd.func47 rfl (Nat.le_of_ble_eq_true rfl) (XT.of tabX_ok ?_)
  conv => whnf
  refine .inl ?_
  conv => whnf
  refine InlG.mk (by kernel_rfl) Tryd.func63 rfl (Nat.le_of_ble_eq_true rfl) (XT.of tabX_ok ?_)
  conv => whnf
  refine .inl ?_
  conv => whnf
  refine InlG.mk (by kernel_rfl) Tryd.func68 rfl (Nat.le_of_ble_eq_true rfl) (XT.of tabX_ok ?_)
  conv => whnf
  refine .ct ?_
  conv => whnf
  refine CallG.mk (left_X _ _ _ _) rfl ?_
  conv => whnf
  refine RegG.par 19 (by kernel_rfl) ?_
  conv => whnf
  simp (disch := omega) only [wz, Int.reduceAdd, Int.reduceSub, Int.reduceMul, Int.reduceNeg, Int.zero_add, Int.add_zero, Int.sub_zero, Int.sub_self]
  conv => whnf
  refine ⟨_, rfl, ?_⟩
  conv => whnf
  refine ⟨_, rfl, ?_⟩
  conv => whnf
  refine ⟨by simp only [bls]; omega, ?_⟩
  conv => whnf
  refine ⟨by simp only [List.length_map, List.length_append, beN_len, List.length_cons, List.length_nil, List.length_replicate, List.length_drop]; omega, ?_⟩
  conv => whnf
  refine ⟨len_by1 _, ?_⟩
  conv => whnf
  refine ⟨.inr rfl, ?_⟩
  conv => whnf
  simp only [← List.map_take, ← List.map_drop]
  refine XT.loop tabX_ok (Y := Nat) [4, 6, 11, 12, 13, 14, 15, 16, 17, 18, 19, 20] (fun k => [(11, .p (.v (.int .i64 k)) (nlv _)), (4, .p (.v (.int .u64 (numL ((List.drop 0 (List.take 1 [3, 127, 255, 255, 255, 255, 255, 255, 255]))) k))) (nlv _))]) (fun k => []) (fun k => k ≤ 1) (fun k => 1 - k) 0 (Nat.zero_le _) ?_ ?_
  · skip
    refine ⟨?_, ?_, ?_⟩
    · skip
      repeat ((conv => whnf); first | exact True.intro | refine ⟨.rfl, ?_⟩ | refine ⟨.any, ?_⟩ | refine ⟨.nil, ?_⟩ | refine ⟨.int (by first | rfl | omega | (simp only [wrs]; omega)), ?_⟩ | refine ⟨.int (num_step (by assumption) (by assumption) (by omega) (Nat.le_of_ble_eq_true rfl)), ?_⟩)
    · skip
      repeat (first | exact LeVs.nil | ((conv => whnf); first | exact True.intro | exact .none | exact .row rfl | refine .cells ?_ | refine ⟨_, _, rfl, .rfl, ?_⟩ | refine ⟨_, _, rfl, .any, ?_⟩ | refine ⟨_, _, rfl, .nil, ?_⟩ | refine ⟨_, _, rfl, .int (by first | rfl | omega | (simp only [wrs]; omega)), ?_⟩ | refine ⟨_, _, rfl, .int (num_step (by assumption) (by assumption) (by omega) (Nat.le_of_ble_eq_true rfl)), ?_⟩ | refine ⟨?_, ?_⟩))
    · skip
      repeat (first | exact LeFr.nil | ((conv => whnf); first | exact True.intro | refine ⟨.rfl, ?_⟩ | refine ⟨_, _, rfl, rfl, ?_, ?_⟩))
  · skip
    rintro k hk
    have hbb := ((hB.take _).drop _ : isB1 ((List.drop 0 (List.take 1 [3, 127, 255, 255, 255, 255, 255, 255, 255]))))
    have hlen : List.length ((List.drop 0 (List.take 1 [3, 127, 255, 255, 255, 255, 255, 255, 255]))) = 1 := rfl
    rcases Nat.lt_or_ge k 1 with hlt | hge
    · skip
      conv => whnf
      rw [show (decide ((↑k : Int) < (↑(List.map by1 (List.drop 0 (List.take 1 [3, 127, 255, 255, 255, 255, 255, 255, 255]))).length : Int))) = true from by simp only [wrs, decide_eq_true_eq, List.length_map, List.length_append, List.length_take, List.length_drop, List.length_cons, List.length_nil, fr_by1, valX]; omega]
      conv => whnf
      refine IdxG.map _ rfl (by first | omega | (simp only [bls] at *; omega)) ?_; intro x_ hx_ hk_
      conv => whnf
      refine ⟨rfl, ?_⟩
      conv => whnf
      refine ⟨(k + 1), by omega, by omega, ?_⟩
      refine ⟨?_, ?_, ?_⟩
      · skip
        repeat ((conv => whnf); first | exact True.intro | refine ⟨.rfl, ?_⟩ | refine ⟨.any, ?_⟩ | refine ⟨.nil, ?_⟩ | refine ⟨.int (by first | rfl | omega | (simp only [wrs]; omega)), ?_⟩ | refine ⟨.int (num_step (by assumption) (by assumption) (by omega) (Nat.le_of_ble_eq_true rfl)), ?_⟩)
      · skip
        repeat (first | exact LeVs.nil | ((conv => whnf); first | exact True.intro | exact .none | exact .row rfl | refine .cells ?_ | refine ⟨_, _, rfl, .rfl, ?_⟩ | refine ⟨_, _, rfl, .any, ?_⟩ | refine ⟨_, _, rfl, .nil, ?_⟩ | refine ⟨_, _, rfl, .int (by first | rfl | omega | (simp only [wrs]; omega)), ?_⟩ | refine ⟨_, _, rfl, .int (num_step (by assumption) (by assumption) (by omega) (Nat.le_of_ble_eq_true rfl)), ?_⟩ | refine ⟨?_, ?_⟩))
      · skip
        repeat (first | exact LeFr.nil | ((conv => whnf); first | exact True.intro | refine ⟨.rfl, ?_⟩ | refine ⟨_, _, rfl, rfl, ?_, ?_⟩))
    · skip
      obtain rfl : k = 1 := by omega
      rw [show numL ((List.drop 0 (List.take 1 [3, 127, 255, 255, 255, 255, 255, 255, 255]))) 1 = 3 from rfl]
      conv => whnf
      refine ⟨.inr rfl, ?_⟩
      conv => whnf
      refine ⟨.inr rfl, ?_⟩
      conv => whnf
      refine .inl ?_
      conv => whnf
      refine InlG.mk (by kernel_rfl) Tryd.func48 rfl (Nat.le_of_ble_eq_true rfl) (XT.of tabX_ok ?_)
      conv => whnf
      refine ⟨.inr rfl, ?_⟩
      conv => whnf
      refine .inl ?_
      conv => whnf
      refine InlG.mk (by kernel_rfl) Tryd.func49 rfl (Nat.le_of_ble_eq_true rfl) (XT.of tabX_ok ?_)
      conv => whnf
      refine .inl ?_
      conv => whnf
      refine InlG.mk (by kernel_rfl) Tryd.func63 rfl (Nat.le_of_ble_eq_true rfl) (XT.of tabX_ok ?_)
      conv => whnf
      refine .inl ?_
      conv => whnf
      refine InlG.mk (by kernel_rfl) Tryd.func68 rfl (Nat.le_of_ble_eq_true rfl) (XT.of tabX_ok ?_)
      conv => whnf
      refine .ct ?_
      conv => whnf
      refine CallG.mk (left_X _ _ _ _) rfl ?_
      conv => whnf
      refine RegG.par 19 (by kernel_rfl) ?_
      conv => whnf
      simp (disch := omega) only [wz, Int.reduceAdd, Int.reduceSub, Int.reduceMul, Int.reduceNeg, Int.zero_add, Int.add_zero, Int.sub_zero, Int.sub_self]
      conv => whnf
      refine ⟨_, rfl, ?_⟩
      conv => whnf
      refine ⟨_, rfl, ?_⟩
      conv => whnf
      refine ⟨by simp only [bls]; omega, ?_⟩
      conv => whnf
      refine ⟨by simp only [List.length_map, List.length_append, beN_len, List.length_cons, List.length_nil, List.length_replicate, List.length_drop]; omega, ?_⟩
      conv => whnf
      refine ⟨len_by1 _, ?_⟩
      conv => whnf
      refine ⟨.inr rfl, ?_⟩
      conv => whnf
      simp only [← List.map_take, ← List.map_drop]
      refine XT.loop tabX_ok (Y := Nat) [4, 6, 11, 12, 13, 14, 15, 16, 17, 18, 19, 20] (fun k => [(11, .p (.v (.int .i64 k)) (nlv _)), (4, .p (.v (.int .u64 (numL ((List.drop 1 (List.take 9 [3, 127, 255, 255, 255, 255, 255, 255, 255]))) k))) (nlv _))]) (fun k => []) (fun k => k ≤ 8) (fun k => 8 - k) 0 (Nat.zero_le _) ?_ ?_
      · skip
        refine ⟨?_, ?_, ?_⟩
        · skip
          repeat ((conv => whnf); first | exact True.intro | refine ⟨.rfl, ?_⟩ | refine ⟨.any, ?_⟩ | refine ⟨.nil, ?_⟩ | refine ⟨.int (by first | rfl | omega | (simp only [wrs]; omega)), ?_⟩ | refine ⟨.int (num_step (by assumption) (by assumption) (by omega) (Nat.le_of_ble_eq_true rfl)), ?_⟩)
        · skip
          repeat (first | exact LeVs.nil | ((conv => whnf); first | exact True.intro | exact .none | exact .row rfl | refine .cells ?_ | refine ⟨_, _, rfl, .rfl, ?_⟩ | refine ⟨_, _, rfl, .any, ?_⟩ | refine ⟨_, _, rfl, .nil, ?_⟩ | refine ⟨_, _, rfl, .int (by first | rfl | omega | (simp only [wrs]; omega)), ?_⟩ | refine ⟨_, _, rfl, .int (num_step (by assumption) (by assumption) (by omega) (Nat.le_of_ble_eq_true rfl)), ?_⟩ | refine ⟨?_, ?_⟩))
        · skip
          repeat (first | exact LeFr.nil | ((conv => whnf); first | exact True.intro | refine ⟨.rfl, ?_⟩ | refine ⟨_, _, rfl, rfl, ?_, ?_⟩))
      · skip
        rintro k hk
        have hbb := ((hB.take _).drop _ : isB1 ((List.drop 1 (List.take 9 [3, 127, 255, 255, 255, 255, 255, 255, 255]))))
        have hlen : List.length ((List.drop 1 (List.take 9 [3, 127, 255, 255, 255, 255, 255, 255, 255]))) = 8 := rfl
        rcases Nat.lt_or_ge k 8 with hlt | hge
        · skip
          conv => whnf
          rw [show (decide ((↑k : Int) < (↑(List.map by1 (List.drop 1 (List.take 9 [3, 127, 255, 255, 255, 255, 255, 255, 255]))).length : Int))) = true from by simp only [wrs, decide_eq_true_eq, List.length_map, List.length_append, List.length_take, List.length_drop, List.length_cons, List.length_nil, fr_by1, valX]; omega]
          conv => whnf
          refine IdxG.map _ rfl (by first | omega | (simp only [bls] at *; omega)) ?_; intro x_ hx_ hk_
          conv => whnf
          refine ⟨rfl, ?_⟩
          conv => whnf
          refine ⟨(k + 1), by omega, by omega, ?_⟩
          refine ⟨?_, ?_, ?_⟩
          · skip
            repeat ((conv => whnf); first | exact True.intro | refine ⟨.rfl, ?_⟩ | refine ⟨.any, ?_⟩ | refine ⟨.nil, ?_⟩ | refine ⟨.int (by first | rfl | omega | (simp only [wrs]; omega)), ?_⟩ | refine ⟨.int (num_step (by assumption) (by assumption) (by omega) (Nat.le_of_ble_eq_true rfl)), ?_⟩)
          · skip
            repeat (first | exact LeVs.nil | ((conv => whnf); first | exact True.intro | exact .none | exact .row rfl | refine .cells ?_ | refine ⟨_, _, rfl, .rfl, ?_⟩ | refine ⟨_, _, rfl, .any, ?_⟩ | refine ⟨_, _, rfl, .nil, ?_⟩ | refine ⟨_, _, rfl, .int (by first | rfl | omega | (simp only [wrs]; omega)), ?_⟩ | refine ⟨_, _, rfl, .int (num_step (by assumption) (by assumption) (by omega) (Nat.le_of_ble_eq_true rfl)), ?_⟩ | refine ⟨?_, ?_⟩))
          · skip
            repeat (first | exact LeFr.nil | ((conv => whnf); first | exact True.intro | refine ⟨.rfl, ?_⟩ | refine ⟨_, _, rfl, rfl, ?_, ?_⟩))
        · skip
          obtain rfl : k = 8 := by omega
          rw [show numL ((List.drop 1 (List.take 9 [3, 127, 255, 255, 255, 255, 255, 255, 255]))) 8 = 9223372036854775807 from rfl]
          conv => whnf
          refine ⟨.inr rfl, ?_⟩
          conv => whnf
          refine ⟨.inr rfl, ?_⟩
          conv => whnf
          refine .inl ?_
          conv => whnf
          refine InlG.mk (by kernel_rfl) Tryd.func48 rfl (Nat.le_of_ble_eq_true rfl) (XT.of tabX_ok ?_)
          conv => whnf
          refine ⟨.inr rfl, ?_⟩
          conv => whnf
          refine RegG.late 9 [(0, 0, 3)] (by kernel_rfl) ?_
          conv => whnf
          refine CallG.mk (left_X _ _ _ _) rfl ?_
          conv => whnf
          refine ⟨rfl, ?_⟩
          conv => whnf
          refine FinG.mk none ?_ (by rintro _ ⟨⟩)
          simp only [outs, List.length_map, List.length_append, List.length_take, List.length_drop, List.length_cons, List.length_nil, fr_by1, valX]
          simp [wrs]; decide
theorem encV9 : encV ⟨3, -1, ⟨#[]⟩⟩ = [3, 127, 255, 255, 255, 255, 255, 255, 255] := by decide +kernel
theorem decode9_E : XMeets Tryd.prog 17 [.sl true ((encV ⟨3, -1, ⟨#[]⟩⟩).map by1)] (.tu [valX ⟨3, -1, ⟨#[]⟩⟩, .p (.v (.int .i64 9)) (nlv _), .p (.v (.int .i64 0)) (nlv _)]) := by rw [encV9]; exact decode9_X true
set_option maxRecDepth 20000 in
theorem wakes_X  : XMeets Tryd.prog 11 [] (.p (.v (.bool true)) (nlv _)) := by
  refine XMeets.of_X tabX_ok (avs := []) [] (by kernel_rfl) Tryd.func11 rfl (by simp [PuL, Pu]) (rfl) rfl rfl ?_
  intro B w0
  conv => whnf
  refine .ct ?_
  conv => whnf
  refine CallG.mk (int_X _) rfl ?_
  conv => whnf
  refine .ct ?_
  conv => whnf
  refine CallG.mk (encode_X ⟨3, -1, ⟨#[]⟩⟩ (by unfold I64; decide)) rfl ?_
  conv => whnf
  refine .ct ?_
  conv => whnf
  refine CallG.mk (decode9_E) rfl ?_
  conv => whnf
  refine .ct ?_
  conv => whnf
  refine CallG.mk (int_X _) rfl ?_
  conv => whnf
  refine .ct ?_
  conv => whnf
  refine CallG.mk (int_X _) rfl ?_
  conv => whnf
  refine .ct ?_
  conv => whnf
  refine CallG.mk (reckon_X 1 ⟨3, 2, ⟨#[]⟩⟩ ⟨3, 3, ⟨#[]⟩⟩ (by unfold I64; decide) (by unfold I64; decide)) rfl ?_
  conv => whnf
  refine .ct ?_
  conv => whnf
  refine CallG.mk (text_X _) rfl ?_
  conv => whnf
  refine .ct ?_
  conv => whnf
  refine CallG.mk (text_X _) rfl ?_
  conv => whnf
  refine .ct ?_
  conv => whnf
  refine CallG.mk (test_X 3 ⟨4, 0, ⟨#[97]⟩⟩ ⟨4, 0, ⟨#[98]⟩⟩) rfl ?_
  conv => whnf
  refine FinG.mk none ?_ (by rintro _ ⟨⟩)
  simp only [outs, List.length_map, List.length_append, List.length_take, List.length_drop, List.length_cons, List.length_nil, fr_by1]
  rfl
set_option maxRecDepth 20000 in
theorem lTruths_X (a b : Int) : XMeets Tryd.prog 9 [.v (.int .i64 a), .v (.int .i64 b)] (.p (.v (.bool true)) (nlv _)) := by
  refine XMeets.of_X tabX_ok (avs := [.p (.v (.int .i64 a)) (nlv _), .p (.v (.int .i64 b)) (nlv _)]) [(0, .p (.v (.int .i64 a)) (nlv _)), (1, .p (.v (.int .i64 b)) (nlv _))] (by kernel_rfl) Tryd.func9 rfl (by simp [PuL, Pu]) (rfl) rfl rfl ?_
  intro B w0
  conv => whnf
  refine .ct ?_
  conv => whnf
  refine CallG.mk (wakes_X) rfl ?_
  conv => whnf
  refine .ct ?_
  conv => whnf
  refine CallG.mk (wakes_X) rfl ?_
  conv => whnf
  refine .ct ?_
  conv => whnf
  refine CallG.mk (and_X _ _) rfl ?_
  conv => whnf
  refine .ct ?_
  conv => whnf
  refine CallG.mk (and5_X _ _) rfl ?_
  conv => whnf
  rw [show (decide (andN a b = andN a b)) = true from decide_eq_true (by omega)]
  conv => whnf
  refine .ct ?_
  conv => whnf
  refine CallG.mk (or3_X _ _) rfl ?_
  conv => whnf
  refine .ct ?_
  conv => whnf
  refine CallG.mk (or5_X _ _) rfl ?_
  conv => whnf
  rw [show (decide (orT a b = orT a b)) = true from decide_eq_true (by omega)]
  conv => whnf
  refine .ct ?_
  conv => whnf
  refine CallG.mk (not_X _) rfl ?_
  conv => whnf
  refine .ct ?_
  conv => whnf
  refine CallG.mk (not5_X _) rfl ?_
  conv => whnf
  refine FinG.mk none ?_ (by rintro _ ⟨⟩)
  simp only [outs, List.length_map, List.length_append, List.length_take, List.length_drop, List.length_cons, List.length_nil, fr_by1]
  simp; done
def vcc (v : Val) : List TV := [.v (.int .i64 v.k), .v (.int .i64 v.n), .v (.string v.t)]
theorem nl_vcc (l : List Val) : NlLL (l.map vcc) := .map fun v _ => .cons (nlv _) (.cons (nlv _) (.cons (nlv _) .nil))
theorem pu_vcc (l : List Val) : PuLL (l.map vcc) := PuLL_map _ _ fun v _ => by simp [vcc, PuL, Pu]
theorem ut_vcc (l : List Val) : untagLL (l.map vcc) = l.map vcc := by
  rw [untagLL_map]; exact List.map_congr_left fun v _ => rfl
def longB (l : List Val) : Bool := l.any fun v => decide (v.t.size > 1000)
theorem longS {l : List Val} {k : Nat} {x : Val} (hx : l[k]? = some x) (h : ∀ v ∈ l.take k, v.t.size ≤ 1000) (hs : x.t.size ≤ 1000) : ∀ v ∈ l.take (k + 1), v.t.size ≤ 1000 := by
  intro v hv
  rw [List.take_add_one, hx] at hv
  rcases List.mem_append.1 hv with h1 | h1
  · exact h v h1
  · simp only [Option.toList, List.mem_singleton] at h1
    rw [h1]; exact hs
theorem longT {l : List Val} {k : Nat} {x : Val} (hx : l[k]? = some x) (hs : 1000 < (x.t.size : Int)) : longB l = true := List.any_eq_true.2 ⟨x, List.mem_of_getElem? hx, by simp; omega⟩
theorem longE {l : List Val} {k : Nat} (hk : k ≤ l.length ∧ ∀ v ∈ l.take k, v.t.size ≤ 1000) (hl : (l.length : Int) ≤ k) : longB l = false := by
  obtain rfl : k = l.length := by omega
  refine List.any_eq_false.2 fun v hv => ?_
  have := hk.2 v (by rw [List.take_length]; exact hv)
  simp; omega
set_option maxRecDepth 20000 in
theorem long_X (b : Bool) (l : List Val) (hl : l.length ≤ 1000) : XMeets Tryd.prog 12 [.sl b (l.map vcc)] (.p (.v (.bool (longB l))) (nlv _)) := by
  refine XMeets.of_X tabX_ok (avs := [.p (.sl false (l.map vcc)) ((nl_vcc l).sl)]) [(0, .p (.sl false (l.map vcc)) ((nl_vcc l).sl))] (by kernel_rfl) Tryd.func12 rfl (by simp [PuL, Pu, pu_vcc]) (by simp only [untagL, untag, ut_vcc]; rfl) rfl rfl ?_
  intro B w0
  conv => whnf
  refine XT.loop tabX_ok (Y := Nat) [2, 4, 7, 8, 9, 10, 11, 12, 13, 14, 15] (fun k => [(7, .p (.v (.int .i64 k)) (nlv _))]) (fun k => []) (fun k => k ≤ l.length ∧ ∀ v ∈ l.take k, v.t.size ≤ 1000) (fun k => l.length - k) 0 ⟨Nat.zero_le _, by simp⟩ ?_ ?_
  · skip
    refine ⟨?_, ?_, ?_⟩
    · skip
      repeat ((conv => whnf); first | exact True.intro | refine ⟨.rfl, ?_⟩ | refine ⟨.any, ?_⟩ | refine ⟨.nil, ?_⟩ | refine ⟨.int (by first | rfl | omega | (simp only [wrs]; omega)), ?_⟩)
    · skip
      repeat (first | exact LeVs.nil | ((conv => whnf); first | exact True.intro | exact .none | exact .row rfl | refine .cells ?_ | refine ⟨_, _, rfl, .rfl, ?_⟩ | refine ⟨_, _, rfl, .any, ?_⟩ | refine ⟨_, _, rfl, .nil, ?_⟩ | refine ⟨_, _, rfl, .int (by first | rfl | omega | (simp only [wrs]; omega)), ?_⟩ | refine ⟨?_, ?_⟩))
    · skip
      repeat (first | exact LeFr.nil | ((conv => whnf); first | exact True.intro | refine ⟨.rfl, ?_⟩ | refine ⟨_, _, rfl, rfl, ?_, ?_⟩))
  · skip
    rintro k hk
    conv => whnf
    cases hc1 : (decide ((↑k : Int) < (↑(List.map vcc l).length : Int)))
    · skip
      try simp only [bls] at hc1
      conv => whnf
      refine FinG.mk none ?_ (by rintro _ ⟨⟩)
      simp only [outs, List.length_map, List.length_append, List.length_take, List.length_drop, List.length_cons, List.length_nil, fr_by1]
      rw [longE hk (by assumption)]
    · skip
      try simp only [bls] at hc1
      conv => whnf
      refine IdxG.map _ rfl (by first | omega | (simp only [bls] at *; omega)) ?_; intro x_ hx_ hk_
      conv => whnf
      refine ⟨rfl, ?_⟩
      conv => whnf
      cases hc2 : (decide (1000 < (↑x_.t.size : Int)))
      · skip
        try simp only [bls] at hc2
        conv => whnf
        refine ⟨(k + 1), ⟨by omega, longS hx_ hk.2 (by omega)⟩, by omega, ?_⟩
        refine ⟨?_, ?_, ?_⟩
        · skip
          repeat ((conv => whnf); first | exact True.intro | refine ⟨.rfl, ?_⟩ | refine ⟨.any, ?_⟩ | refine ⟨.nil, ?_⟩ | refine ⟨.int (by first | rfl | omega | (simp only [wrs]; omega)), ?_⟩)
        · skip
          repeat (first | exact LeVs.nil | ((conv => whnf); first | exact True.intro | exact .none | exact .row rfl | refine .cells ?_ | refine ⟨_, _, rfl, .rfl, ?_⟩ | refine ⟨_, _, rfl, .any, ?_⟩ | refine ⟨_, _, rfl, .nil, ?_⟩ | refine ⟨_, _, rfl, .int (by first | rfl | omega | (simp only [wrs]; omega)), ?_⟩ | refine ⟨?_, ?_⟩))
        · skip
          repeat (first | exact LeFr.nil | ((conv => whnf); first | exact True.intro | refine ⟨.rfl, ?_⟩ | refine ⟨_, _, rfl, rfl, ?_, ?_⟩))
      · skip
        try simp only [bls] at hc2
        conv => whnf
        refine FinG.mk none ?_ (by rintro _ ⟨⟩)
        simp only [outs, List.length_map, List.length_append, List.length_take, List.length_drop, List.length_cons, List.length_nil, fr_by1]
        rw [longT (by assumption) (by assumption)]
set_option maxRecDepth 20000 in
theorem lTests_X (op : Int) (a b : Val) : XMeets Tryd.prog 3 [.v (.int .i64 op), valT a, valT b] (.p (.v (.bool true)) (nlv _)) := by
  refine XMeets.of_X tabX_ok (avs := [.p (.v (.int .i64 op)) (nlv _), valX a, valX b]) [(0, .p (.v (.int .i64 op)) (nlv _)), (1, valX a), (2, valX b)] (by kernel_rfl) Tryd.func3 rfl (by simp [PuL, Pu, valT]) (rfl) rfl rfl ?_
  intro B w0
  conv => whnf
  refine .ct ?_
  conv => whnf
  refine CallG.mk (wakes_X) rfl ?_
  conv => whnf
  refine .ct ?_
  conv => whnf
  refine CallG.mk (long_X _ [a, b] (Nat.le_of_ble_eq_true rfl)) rfl ?_
  conv => whnf
  cases hc1 : (longB [a, b])
  · skip
    try simp only [bls] at hc1
    conv => whnf
    refine .ct ?_
    conv => whnf
    refine CallG.mk (test_X _ _ _) rfl ?_
    conv => whnf
    refine .ct ?_
    conv => whnf
    refine CallG.mk (test5_X _ _ _) rfl ?_
    conv => whnf
    rw [show (decide ((testN op a b).fst = (testN op a b).fst)) = true from decide_eq_true (by omega)]
    conv => whnf
    refine FinG.mk none ?_ (by rintro _ ⟨⟩)
    simp only [outs, List.length_map, List.length_append, List.length_take, List.length_drop, List.length_cons, List.length_nil, fr_by1]
    simp; done
  · skip
    try simp only [bls] at hc1
    conv => whnf
    refine FinG.mk none ?_ (by rintro _ ⟨⟩)
    simp only [outs, List.length_map, List.length_append, List.length_take, List.length_drop, List.length_cons, List.length_nil, fr_by1]
end Go.Proofs.YtdcemcobldpcnaaDoor
