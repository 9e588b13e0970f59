/- What a log tells of spots, and hands on: the walk. No condition. -/
import Derived.Test.YtpckkajodpiiaaaLMe
import Derived.Test.YtpckkajodpiiaaaLQ
import Derived.Test.YtpckkajodpiiaaaTEC
import Derived.Test.YtpckkajodpiiaaaU12
import Derived.Test.YtpckkajodpiiaaaU13
namespace Go.Proofs.Ytpckkajodpiiaaa
open Go.RowKit
set_option linter.unusedVariables false
set_option linter.unusedSimpArgs false
set_option maxRecDepth 20000
theorem last_X (b b' : Bool) (i t : Int) (es : List Ent) (h : okE es) (hi0 : 0 ≤ i) (hi1 : i < 18446744073709551616) : XMeets Try.prog 31 [logT i t (.sl b (es.map (entC b')))] (atX (lastN i t es)) := ⟨by kernel_rfl, last_T b b' i t es h.w h.n9 hi0 hi1⟩
theorem term_X (b b' : Bool) (i t : Int) (es : List Ent) (h : okE es) (hi0 : 0 ≤ i) (hi1 : i < 18446744073709551616) (x : Int) : XMeets Try.prog 32 [logT i t (.sl b (es.map (entC b'))), .v (.int .u64 x)] (.tu [.p (.v (.int .u64 (termN i t es x).1)) (nlv _), .p (.v (.bool (termN i t es x).2)) (nlv _)]) := ⟨by kernel_rfl, term_T b b' i t es h.w h.n9 hi0 hi1 x⟩
theorem hasx_X (b b' : Bool) (i t : Int) (es : List Ent) (h : okE es) (hi0 : 0 ≤ i) (hi1 : i < 18446744073709551616) (x : Int × Int) : XMeets Try.prog 39 [logT i t (.sl b (es.map (entC b'))), .agg [.v (.int .u64 x.1), .v (.int .u64 x.2)]] (.p (.v (.bool (mayB i t es && hasB i t es x.1 x.2))) (nlv _)) := ⟨by kernel_rfl, hasx_T b b' i t es h.w h.n9 hi0 hi1 x⟩
theorem newer_X (x y : Int × Int) : XMeets Try.prog 40 [.agg [.v (.int .u64 x.1), .v (.int .u64 x.2)], .agg [.v (.int .u64 y.1), .v (.int .u64 y.2)]] (.p (.v (.bool (newerB x y))) (nlv _)) := ⟨by kernel_rfl, newer_T x y⟩
theorem from_X (b b' : Bool) (i t : Int) (es : List Ent) (h : okE es) (hi0 : 0 ≤ i) (hi1 : i < 18446744073709551616) (x n : Int) (hx0 : 0 ≤ x) (hx1 : x < 18446744073709551616) (hn : n < 9223372036854775808) : XMeets Try.prog 34 [logT i t (.sl b (es.map (entC b'))), .v (.int .u64 x), .v (.int .i64 n)]
    (.tu [atX (fromA i t es x n), .p (.sl true ((fromL i t es x n).map (entC true))) (nl_ents _ _).sl, .p (.v (.int .i64 (fromE i t es x n))) (nlv _)]) :=
  .of_shr (by kernel_rfl) (from_T b b' i t es h hi0 hi1 x hx0 hx1 n hn) ⟨⟨trivial, trivial, trivial⟩, fr_ents _, trivial, trivial⟩ rfl
theorem last_6 {i t : Int} {es : List Ent} (h : mayB i t es = true) : lastN i t es = spotN i t es es.length := by unfold lastN; rw [if_pos h]
theorem last_f {i t : Int} {es : List Ent} (h : mayB i t es = false) : lastN i t es = (0, 0) := by unfold lastN; rw [h]; rfl
theorem term_6 {i t : Int} {es : List Ent} (h0 : 0 ≤ i) (h : mayB i t es = true) (x : Int) : termN i t es x = term6N i t es x := by
  unfold termN term6N
  rw [num6_ofN h0 (may_room6 h)]
  by_cases hx : ofN i x es.length < 0
  · rw [if_pos hx, if_neg (by omega)]
  · rw [if_neg hx, if_pos ⟨h, by omega⟩]
theorem term_f {i t : Int} {es : List Ent} (h : mayB i t es = false) (x : Int) : termN i t es x = (0, false) := by unfold termN; rw [h]; simp
theorem ahead_6 {i t : Int} {es : List Ent} (h0 : 0 ≤ i) (h : mayB i t es = true) {x : Int} (hx0 : 0 ≤ x) : aheadN i t es x = if x = 0 ∨ num6 i (x - 1) es.length < 0 then (-1, 4) else (num6 i (x - 1) es.length, 0) := by
  unfold aheadN
  rw [num6_ofN h0 (may_room6 h), if_pos h]
  by_cases hx : x = 0 ∨ ofN i (x - 1) es.length < 0
  · rw [if_pos hx, if_neg (by omega)]
  · rw [if_neg hx, if_pos (by omega)]
theorem fromE_6 {i t : Int} {es : List Ent} (h0 : 0 ≤ i) (h : mayB i t es = true) {x : Int} (hx0 : 0 ≤ x) (n : Int) : fromE i t es x n = from6E i es x n := by
  unfold fromE from6E
  rw [ahead_6 h0 h hx0]
  by_cases hx : x = 0 ∨ num6 i (x - 1) es.length < 0
  · rw [if_pos hx, if_pos hx]; rfl
  · rw [if_neg hx, if_neg hx]; rfl
theorem from6_0 {i : Int} {es : List Ent} {x n : Int} (h : from6E i es x n = 0) : ¬ (x = 0 ∨ num6 i (x - 1) es.length < 0) := by
  intro hx
  unfold from6E at h
  rw [if_pos hx] at h
  cases h
theorem fromA_6 {i t : Int} {es : List Ent} (h0 : 0 ≤ i) (h : mayB i t es = true) {x : Int} (hx0 : 0 ≤ x) (n : Int) : fromA i t es x n = from6A i t es x n := by
  unfold fromA from6A from6K
  rw [fromE_6 h0 h hx0]
  by_cases he : from6E i es x n = 0
  · rw [if_pos he, if_pos he, ahead_6 h0 h hx0, if_neg (from6_0 he)]
  · rw [if_neg he, if_neg he]
theorem fromL_6 {i t : Int} {es : List Ent} (h0 : 0 ≤ i) (h : mayB i t es = true) {x : Int} (hx0 : 0 ≤ x) (n : Int) : fromL i t es x n = from6L i es x n := by
  unfold fromL from6L from6K
  rw [fromE_6 h0 h hx0]
  by_cases he : from6E i es x n = 0
  · rw [if_pos he, if_pos he, ahead_6 h0 h hx0, if_neg (from6_0 he)]
  · rw [if_neg he, if_neg he]
theorem fromE_f {i t : Int} {es : List Ent} (h : mayB i t es = false) (x n : Int) : fromE i t es x n = 160 := by unfold fromE aheadN; rw [h]; rfl
theorem fromA_f {i t : Int} {es : List Ent} (h : mayB i t es = false) (x n : Int) : fromA i t es x n = (0, 0) := by unfold fromA; rw [fromE_f h]; rfl
theorem fromL_f {i t : Int} {es : List Ent} (h : mayB i t es = false) (x n : Int) : fromL i t es x n = [] := by unfold fromL; rw [fromE_f h]; rfl
theorem conf_6 {i t : Int} {es : List Ent} (h : mayB i t es = true) (x : Int) : confR i t x es = cf6 i t x es es.length := by unfold confR; rw [if_pos h, cfR_6]
theorem conf_f {i t : Int} {es : List Ent} (h : mayB i t es = false) (x : Int) : confR i t x es = (0, [], false) := by unfold confR; rw [h]; rfl
theorem fromL_wo {i t : Int} {F : List Ent} (h : Wo F) (x n : Int) : Wo (fromL i t F x n) := by
  unfold fromL
  split
  · exact (h.drop _).take _
  · exact .nil
theorem cfR_sub {i t x : Int} {es : List Ent} : ∀ k, (cfR i t x es k).2.1 = [] ∨ ∃ e ∈ es, (cfR i t x es k).2.1 = e.D
  | 0 => .inl rfl
  | k + 1 => by
    rw [show cfR i t x es (k + 1) = (match es[k]? with
      | some e => if e.K = 3 ∧ (spotN i t es (k + 1)).1 ≤ x then ((spotN i t es (k + 1)).1, e.D, true) else cfR i t x es k
      | none => cfR i t x es k) from rfl]
    split
    · rename_i e he
      split
      · exact .inr ⟨e, List.mem_of_getElem? he, rfl⟩
      · exact cfR_sub k
    · exact cfR_sub k
theorem conf_len {i t x : Int} {F : List Ent} (h : Wo F) : (confR i t x F).2.1.length ≤ 1000000 := by
  unfold confR
  split
  · rcases cfR_sub (i := i) (t := t) (x := x) (es := F) F.length with h1 | ⟨e, he, h1⟩
    · rw [h1]; simp
    · rw [h1]; exact h.2 e he
  · simp
theorem nl_ats (l : List (Int × Int)) : NlLL (l.map atC) := .map fun e _ => .cons (nlv _) (.cons (nlv _) .nil)
theorem pu_ats (l : List (Int × Int)) : PuLL (l.map atC) := PuLL_map _ _ fun e _ => by simp [atC, PuL, Pu]
theorem untag_ats (l : List (Int × Int)) : untagLL (l.map atC) = l.map atC := by rw [untagLL_map]; rfl
theorem pin_at (p : Int × Int) : NlL [TV.v (.int .u64 p.1), .v (.int .u64 p.2)] := .cons (nlv _) (.cons (nlv _) .nil)
theorem notBs {a b : ByteArray} (h : a = b) : (!bsEq a b) = false := by subst h; simp [bsEq]
/-- A number that may be an index. -/
def AtOk (p : Int × Int) : Prop := 0 ≤ p.1 ∧ p.1 < 18446744073709551616
set_option maxHeartbeats 4000000 in
set_option maxRecDepth 20000 in
theorem lTells_X (b b' c : Bool) {i t : Int} (es : List Ent) (ps : List (Int × Int)) (n : Int) (hi0 : 0 ≤ i) (hi1 : i < 18446744073709551616) (ht0 : 0 ≤ t) (hw : wfE es) (hn : es.length ≤ 9223372036854775807) (hps : ∀ p ∈ ps, AtOk p) (hnp : ps.length ≤ 9223372036854775807) (hn1 : n < 9223372036854775808) : XMeets Try.prog 6 [logT i t (.sl b (es.map (entC b'))), .sl c (ps.map atC), .v (.int .i64 n)] (.p (.v (.bool true)) (nlv _)) := by
  refine XMeets.of_XM [(13, .row 0)] tabX_ok (avs := [.ag [.p (.v (.int .u64 i)) (nlv _), .p (.v (.int .u64 t)) (nlv _), .p (.sl false (es.map (entC false))) (nl_ents _ _).sl], .p (.sl false (ps.map atC)) (nl_ats _).sl, .p (.v (.int .i64 n)) (nlv _)]) [(0, .ag [.p (.v (.int .u64 i)) (nlv _), .p (.v (.int .u64 t)) (nlv _), .p (.sl false (es.map (entC false))) (nl_ents _ _).sl]), (1, .p (.sl false (ps.map atC)) (nl_ats _).sl), (2, .p (.v (.int .i64 n)) (nlv _))] (by kernel_rfl) Try.func6 rfl (by simp [PuL, Pu, logT, atT, pu_ents, pu_bytes, pu_ats]) (by simp only [untagL, untag, logT, atT, untag_ents, untag_bytes, untag_ats]; rfl) rfl rfl ?_
  intro B w0
  obtain ⟨F, hF⟩ : ∃ F, fewL es = F := ⟨_, rfl⟩
  have hokF : okE F := hF ▸ few_ok hw
  have hFF : fewL F = F := by rw [← hF]; exact few_few _
  have hlF : F.length ≤ 32 := by rw [← hF]; simp [fewL]; omega
  have hWF : Wo F := hF ▸ Wo.few es
  conv => whnf
  refine .ct ?_
  conv => whnf
  refine CallG.mk (wakes_X) rfl ?_
  conv => whnf
  refine .ct ?_
  conv => whnf
  refine CallG.mk (own_X _ _ _ _ es hn hF) rfl ?_
  conv => whnf
  refine .ct ?_
  conv => whnf
  refine CallG.mk (own_X _ _ _ _ F (by omega) hFF) rfl ?_
  conv => whnf
  refine .ct ?_
  conv => whnf
  refine CallG.mk (right_X _ _ _ _ F hokF hi0 hi1 ht0) rfl ?_
  conv => whnf
  refine .ct ?_
  conv => whnf
  refine CallG.mk (last_X _ _ i t F hokF hi0 hi1) rfl ?_
  conv => whnf
  refine RegG.par 16 (by kernel_rfl) ?_
  conv => whnf
  cases hc1 : (mayB i t F)
  · skip
    try simp only [bls] at hc1
    conv => whnf
    refine BinG.mk rfl rfl (neAt6_run _ _ _ _ _ _) ?_
    conv => whnf
    refine bF (by have hm : mayB i t F = false := (by assumption); simp [last_f hm]; done) ?_
    conv => whnf
    refine XT.loop tabX_ok (Y := Nat) [0, 6, 9, 10, 11, 12, 13, 14, 15, 16, 17, 18, 19, 20, 21, 22, 23, 24, 25, 26, 27, 28, 29, 32, 33, 34, 35, 36, 38, 39, 42, 43, 44, 51, 52, 58, 59, 60, 61, 62, 63, 64, 65, 66, 67, 68, 69, 70, 71, 72, 73, 74, 75, 76, 77, 78, 79, 80, 81, 82, 83, 84, 85, 86, 87, 88, 89, 90, 91, 92, 93, 94, 95, 96, 97, 98, 99, 100, 101, 102, 103, 104, 105, 106, 107, 108, 109, 110, 111, 112, 113, 114, 115, 116, 117, 118, 119, 120, 121, 122, 123, 124, 125, 126, 127, 128, 129, 130, 131, 132, 133, 134, 135, 136, 137, 138, 139, 140, 141, 142, 143, 144, 145, 146, 147, 148, 149, 150, 151, 152, 153, 154, 155, 156, 157, 158, 159, 160, 161, 162, 163, 164, 165, 166, 167, 168, 169, 170, 171, 172, 173, 174, 175, 176, 177, 178, 179, 180, 181, 182, 183, 184, 185, 186, 187, 188, 189, 190, 191, 192, 193, 194, 195, 196, 197, 198, 199, 200] (fun k => [(58, .p (.v (.int .i64 (k : Int))) (nlv _))]) (fun k => []) (fun k => k ≤ ps.length) (fun k => ps.length - k) 0 (Nat.zero_le _) ?_ ?_
    · skip
      refine ⟨?_, ?_, ?_⟩
      · skip
        repeat ((conv => whnf); first | exact True.intro | refine ⟨.rfl, ?_⟩ | refine ⟨.any, ?_⟩ | refine ⟨.nil, ?_⟩ | refine ⟨.int (by first | rfl | omega | (simp only [wrs]; omega)), ?_⟩)
      · skip
        repeat (first | exact LeVs.nil | ((conv => whnf); first | exact True.intro | exact .none | exact .row rfl | refine .cells ?_ | refine ⟨_, _, rfl, .rfl, ?_⟩ | refine ⟨_, _, rfl, .any, ?_⟩ | refine ⟨_, _, rfl, .nil, ?_⟩ | refine ⟨_, _, rfl, .int (by first | rfl | omega | (simp only [wrs]; omega)), ?_⟩ | refine ⟨?_, ?_⟩))
      · skip
        repeat (first | exact LeFr.nil | ((conv => whnf); first | exact True.intro | refine ⟨.rfl, ?_⟩ | refine ⟨_, _, rfl, rfl, ?_, ?_⟩))
    · skip
      rintro k hk
      conv => whnf
      cases hc2 : (decide ((↑k : Int) < (↑(List.map atC ps).length : Int)))
      · skip
        try simp only [bls] at hc2
        conv => whnf
        refine FinG.mk none ?_ (by rintro _ ⟨⟩)
        simp only [outs, List.length_map, List.length_append, List.length_take, List.length_drop, List.length_cons, List.length_nil, atC, entC, byC, atX, at6]
      · skip
        try simp only [bls] at hc2
        conv => whnf
        refine IdxG.map _ rfl (by first | omega | (simp only [List.length_map] at *; omega)) ?_; intro o ho hko
        have hoo := hps o (List.mem_of_getElem? ho)
        have ho0 := hoo.1
        have ho1 := hoo.2
        obtain ⟨q0, hq0⟩ : ∃ q, ps[0]? = some q := ⟨ps[0]'(by omega), List.getElem?_eq_getElem _⟩
        have hq1 : (ps.map atC)[0]? = some (atC q0) := by rw [List.getElem?_map, hq0]; rfl
        conv => whnf
        refine ⟨rfl, ?_⟩
        conv => whnf
        cases hc3 : (decide ((↑k : Int) = 20))
        · skip
          try simp only [bls] at hc3
          conv => whnf
          refine XT.mark tabX_ok 11 [1, 3, 7, 11, 56] ?_
          intro M w1 us
          refine ⟨[(1, .pin (us 1) (.sl false (ps.map atC)) ((nl_ats _).sl)), (3, .pin (us 3) (.eptr [.v (.int .u64 i), .v (.int .u64 t), .sl false (F.map (entC false))]) ((pin_nl _ _ _).eptr)), (7, .pin (us 7) (.eptr [.v (.int .u64 i), .v (.int .u64 t), .sl false (F.map (entC false))]) ((pin_nl _ _ _).eptr)), (11, .pin (us 11) (.eptr [.v (.int .u64 o.1), .v (.int .u64 o.2)]) ((pin_at _).eptr)), (56, .pin (us 56) (.sl false (ps.map atC)) ((nl_ats _).sl))], ?_, ?_⟩
          · skip
            refine ⟨.pin rfl rfl (by simp [Pu, PuL, pu_ents, pu_ats]) (by simp only [untag, untagL, untag_ents, untag_ats]), ?_⟩
            refine ⟨.pin rfl rfl (by simp [Pu, PuL, pu_ents, pu_ats]) (by simp only [untag, untagL, untag_ents, untag_ats]), ?_⟩
            refine ⟨.pin rfl rfl (by simp [Pu, PuL, pu_ents, pu_ats]) (by simp only [untag, untagL, untag_ents, untag_ats]), ?_⟩
            refine ⟨.pin rfl rfl (by simp [Pu, PuL, pu_ents, pu_ats]) (by simp only [untag, untagL, untag_ents, untag_ats]), ?_⟩
            refine ⟨.pin rfl rfl (by simp [Pu, PuL, pu_ents, pu_ats]) (by simp only [untag, untagL, untag_ents, untag_ats]), ?_⟩
            exact True.intro
          · skip
            intro hpins
            obtain ⟨hp1, hp3, hp7, hp11, hp56, -⟩ : PinOk M w1 (us 1) (.sl false (ps.map atC)) ∧ PinOk M w1 (us 3) (.eptr [.v (.int .u64 i), .v (.int .u64 t), .sl false (F.map (entC false))]) ∧ PinOk M w1 (us 7) (.eptr [.v (.int .u64 i), .v (.int .u64 t), .sl false (F.map (entC false))]) ∧ PinOk M w1 (us 11) (.eptr [.v (.int .u64 o.1), .v (.int .u64 o.2)]) ∧ PinOk M w1 (us 56) (.sl false (ps.map atC)) ∧ True := hpins
            conv => whnf
            refine ⟨by assumption, ?_⟩
            conv => whnf
            refine ⟨by assumption, ?_⟩
            conv => whnf
            refine .ct ?_
            conv => whnf
            refine CallG.mk (term_X _ _ i t F hokF hi0 hi1 _) rfl ?_
            conv => whnf
            refine ⟨by assumption, ?_⟩
            conv => whnf
            refine ⟨by assumption, ?_⟩
            conv => whnf
            refine .ct ?_
            conv => whnf
            refine CallG.mk (term6_X _ _ i t F _ hi0 hi1 (by omega)) rfl ?_
            conv => whnf
            refine ⟨by assumption, ?_⟩
            conv => whnf
            refine ⟨by assumption, ?_⟩
            conv => whnf
            refine .ct ?_
            conv => whnf
            refine CallG.mk (from_X _ _ i t F hokF hi0 hi1 _ n ho0 ho1 hn1) rfl ?_
            conv => whnf
            refine ⟨by assumption, ?_⟩
            conv => whnf
            refine ⟨by assumption, ?_⟩
            conv => whnf
            refine .ct ?_
            conv => whnf
            refine CallG.mk (from6_X _ _ i t F _ n hokF.dok ho0 ho1 hi0 hi1 (by omega)) rfl ?_
            conv => whnf
            refine ⟨by assumption, ?_⟩
            conv => whnf
            refine ⟨by assumption, ?_⟩
            conv => whnf
            refine .ct ?_
            conv => whnf
            refine CallG.mk (conf_X _ _ i t F hokF hi0 hi1 _) rfl ?_
            conv => whnf
            refine ⟨by assumption, ?_⟩
            conv => whnf
            refine ⟨by assumption, ?_⟩
            conv => whnf
            refine .ct ?_
            conv => whnf
            refine CallG.mk (conf6_X _ _ i t F _ hokF.dok hi0 hi1 (by omega)) rfl ?_
            conv => whnf
            refine bF (by have hm : mayB i t F = false := (by assumption); simp [term_f hm]; done) ?_
            conv => whnf
            refine bF (by have hm : mayB i t F = false := (by assumption); simp [term_f hm]; done) ?_
            conv => whnf
            refine bF (by have hm : mayB i t F = false := (by assumption); simp [term_f hm]; done) ?_
            conv => whnf
            refine bF (by have hm : mayB i t F = false := (by assumption); simp [term_f hm]; done) ?_
            conv => whnf
            refine bF (by have hm : mayB i t F = false := (by assumption); simp [term_f hm]; done) ?_
            conv => whnf
            refine bF (by have hm : mayB i t F = false := (by assumption); simp [term_f hm]; done) ?_
            conv => whnf
            refine bF (by have hm : mayB i t F = false := (by assumption); simp [term_f hm]; done) ?_
            conv => whnf
            refine BinG.mk rfl rfl (neAt6_run _ _ _ _ _ _) ?_
            conv => whnf
            refine bF (by have hm : mayB i t F = false := (by assumption); simp [term_f hm]; done) ?_
            conv => whnf
            refine bF (by have hm : mayB i t F = false := (by assumption); simp [fromA_f hm]; done) ?_
            conv => whnf
            refine bF (by have hm : mayB i t F = false := (by assumption); simp [fromA_f hm]; done) ?_
            conv => whnf
            refine bF (by have hm : mayB i t F = false := (by assumption); simp [fromA_f hm]; done) ?_
            conv => whnf
            refine bF (by have hm : mayB i t F = false := (by assumption); simp [fromA_f hm]; done) ?_
            conv => whnf
            refine bF (by have hm : mayB i t F = false := (by assumption); simp [fromE_f hm]; done) ?_
            conv => whnf
            refine bF (by have hm : mayB i t F = false := (by assumption); simp [fromE_f hm]; done) ?_
            conv => whnf
            refine bF (by have hm : mayB i t F = false := (by assumption); simp [fromE_f hm]; done) ?_
            conv => whnf
            refine bF (by have hm : mayB i t F = false := (by assumption); simp [fromE_f hm]; done) ?_
            conv => whnf
            refine bF (by have hm : mayB i t F = false := (by assumption); simp [conf_f hm]; done) ?_
            conv => whnf
            refine bF (by have hm : mayB i t F = false := (by assumption); simp [conf_f hm]; done) ?_
            conv => whnf
            refine bF (by have hm : mayB i t F = false := (by assumption); simp [conf_f hm]; done) ?_
            conv => whnf
            refine bF (by have hm : mayB i t F = false := (by assumption); simp [conf_f hm]; done) ?_
            conv => whnf
            refine bF (by have hm : mayB i t F = false := (by assumption); simp [conf_f hm]; done) ?_
            conv => whnf
            refine bF (by have hm : mayB i t F = false := (by assumption); simp [conf_f hm]; done) ?_
            conv => whnf
            refine ⟨_, rfl, ?_⟩
            conv => whnf
            refine bF (by have hm : mayB i t F = false := (by assumption); simp [conf_f hm]; done) ?_
            conv => whnf
            refine bF (by have hm : mayB i t F = false := (by assumption); simp [conf_f hm]; done) ?_
            conv => whnf
            refine ⟨[], rfl, ?_⟩
            conv => whnf
            refine bF (by have hm : mayB i t F = false := (by assumption); simp [conf_f hm]; done) ?_
            conv => whnf
            refine bF (by have hm : mayB i t F = false := (by assumption); simp [conf_f hm]; done) ?_
            conv => whnf
            refine bF (notBs (by have hm : mayB i t F = false := (by assumption); rw [conf_f hm])) ?_
            conv => whnf
            refine ⟨by assumption, ?_⟩
            conv => whnf
            refine bF (notBs (by have hm : mayB i t F = false := (by assumption); rw [conf_f hm])) ?_
            conv => whnf
            refine ⟨by assumption, ?_⟩
            conv => whnf
            refine bF (notBs (by have hm : mayB i t F = false := (by assumption); rw [conf_f hm])) ?_
            conv => whnf
            refine .ct ?_
            conv => whnf
            refine CallG.mk (hasx_X _ _ i t F hokF hi0 hi1 _) rfl ?_
            conv => whnf
            refine bF (notBs (by have hm : mayB i t F = false := (by assumption); rw [conf_f hm])) ?_
            conv => whnf
            refine bF (notBs (by have hm : mayB i t F = false := (by assumption); rw [conf_f hm])) ?_
            conv => whnf
            refine bF (notBs (by have hm : mayB i t F = false := (by assumption); rw [conf_f hm])) ?_
            conv => whnf
            refine bF (by have hm : mayB i t F = false := (by assumption); simp [hm]; done) ?_
            conv => whnf
            refine bF (by have hm : mayB i t F = false := (by assumption); simp [hm]; done) ?_
            conv => whnf
            refine bF (by have hm : mayB i t F = false := (by assumption); simp [hm]; done) ?_
            conv => whnf
            refine .ct ?_
            conv => whnf
            refine CallG.mk (sameE6_X _ _ true true _ [] (fromL_wo hWF _ _).d (fromL_wo hWF _ _).n) rfl ?_
            conv => whnf
            refine bF (by have hm : mayB i t F = false := (by assumption); simp [hm]; done) ?_
            conv => whnf
            refine bF (by have hm : mayB i t F = false := (by assumption); simp [hm]; done) ?_
            conv => whnf
            refine bF (notF (by have hm : mayB i t F = false := (by assumption); rw [fromL_f hm]; exact sameE_t rfl)) ?_
            conv => whnf
            refine RegG.unpin 1 rfl hp1 rfl rfl ?_
            refine RegG.unpin 11 rfl hp11 rfl rfl ?_
            refine RegG.par 11 (by kernel_rfl) ?_
            conv => whnf
            refine IdxG.mk hq1 rfl ?_
            conv => whnf
            refine ⟨rfl, ?_⟩
            conv => whnf
            refine CallG.mk (newer_X _ _) rfl ?_
            conv => whnf
            refine IdxG.mk hq1 rfl ?_
            conv => whnf
            refine ⟨rfl, ?_⟩
            conv => whnf
            refine CallG.mk (newer6_X _ _) rfl ?_
            conv => whnf
            refine bF (by simp) ?_
            conv => whnf
            refine .wr (WCall.spoilB 23 (fun y : List Int => .p (.sl true (y.map byC)) (nl_byc _).sl) (fun y => y.length = (confR i t o.1 F).2.1.length) (fromL_wo hWF o.1 n).S rfl rfl (fun C C2 u hs hB hS hd => bl_data hs hB hS hd) ?_); intro y0 hy0; have hyl0 := conf_len (i := i) (t := t) (x := o.1) hWF
            conv => whnf
            refine XT.marks [(29, .p (.v (.bool true)) (nlv _))] ?_
            refine XT.loop tabX_ok (Y := Nat × List Int) [23, 29, 184, 186, 187, 188, 189, 190, 191, 192, 193, 194, 195] (fun (j, y) => [(186, .p (.v (.int .i64 (j : Int))) (nlv _)), (23, .p (.sl true (y.map byC)) (nl_byc _).sl)]) (fun (j, y) => []) (fun (j, y) => j ≤ y0.length ∧ y.length = y0.length) (fun (j, y) => y0.length - j) (0, y0) ⟨Nat.zero_le _, rfl⟩ ?_ ?_
            · skip
              refine ⟨?_, ?_, ?_⟩
              · skip
                repeat ((conv => whnf); first | exact True.intro | refine ⟨.rfl, ?_⟩ | refine ⟨.any, ?_⟩ | refine ⟨.nil, ?_⟩ | refine ⟨.int (by first | rfl | omega | (simp only [wrs]; omega)), ?_⟩)
              · skip
                repeat (first | exact LeVs.nil | ((conv => whnf); first | exact True.intro | exact .none | exact .row rfl | refine .cells ?_ | refine ⟨_, _, rfl, .rfl, ?_⟩ | refine ⟨_, _, rfl, .any, ?_⟩ | refine ⟨_, _, rfl, .nil, ?_⟩ | refine ⟨_, _, rfl, .int (by first | rfl | omega | (simp only [wrs]; omega)), ?_⟩ | refine ⟨?_, ?_⟩))
              · skip
                repeat (first | exact LeFr.nil | ((conv => whnf); first | exact True.intro | refine ⟨.rfl, ?_⟩ | refine ⟨_, _, rfl, rfl, ?_, ?_⟩))
            · skip
              rintro ⟨j, y⟩ ⟨hj, hyl⟩
              conv => whnf
              cases hc4 : (decide ((↑j : Int) < (↑(List.map byC y0).length : Int)))
              · skip
                try simp only [bls] at hc4
                conv => whnf
                refine ⟨⟨⟨_, _, rfl⟩, rfl, ⟨_, _, rfl⟩, rfl, ⟨_, _, rfl⟩, rfl, ⟨_, _, rfl⟩, rfl, ⟨_, _, rfl⟩, rfl, True.intro⟩, ?_⟩
                conv => whnf
                refine XT.of tabX_ok ?_
                conv => whnf
                refine .ct ?_
                conv => whnf
                refine CallG.mk (same6_W _ _ _ _ _ _ _ _ _ hWF) rfl ?_
                conv => whnf
                refine bF (notF (sameL_self _ _ _)) ?_
                conv => whnf
                refine ⟨(k + 1), (by first | omega | (simp only [List.length_map] at *; omega)), (by first | omega | (simp only [List.length_map] at *; omega)), ?_⟩
                refine ⟨?_, ?_, ?_⟩
                · skip
                  repeat ((conv => whnf); first | exact True.intro | refine ⟨.rfl, ?_⟩ | refine ⟨.any, ?_⟩ | refine ⟨.nil, ?_⟩ | refine ⟨.int (by first | rfl | omega | (simp only [wrs]; omega)), ?_⟩)
                · skip
                  repeat (first | exact LeVs.nil | ((conv => whnf); first | exact True.intro | exact .none | exact .row rfl | refine .cells ?_ | refine ⟨_, _, rfl, .rfl, ?_⟩ | refine ⟨_, _, rfl, .any, ?_⟩ | refine ⟨_, _, rfl, .nil, ?_⟩ | refine ⟨_, _, rfl, .int (by first | rfl | omega | (simp only [wrs]; omega)), ?_⟩ | refine ⟨?_, ?_⟩))
                · skip
                  repeat (first | exact LeFr.nil | ((conv => whnf); first | exact True.intro | refine ⟨.rfl, ?_⟩ | refine ⟨_, _, rfl, rfl, ?_, ?_⟩))
              · skip
                try simp only [bls] at hc4
                conv => whnf
                refine XT.over tabX_ok 5 23 (fun y : List Int => .p (.sl true (y.map byC)) (nl_byc _).sl) (fun y => y.length = y0.length) rfl ⟨rfl, rfl, rfl⟩ ⟨rfl, rfl, rfl⟩ (tT rfl) rfl (tT rfl) rfl (tT rfl) rfl rfl rfl ?_ rfl
                conv => whnf
                refine IdxG.map _ rfl (by first | omega | (simp only [bls] at *; omega)) ?_; intro x_4 hx_4 hk_4
                conv => whnf
                refine ⟨rfl, ?_⟩
                conv => whnf
                refine ⟨y, _, j, _, _, rfl, rfl, by omega, fun v => rfl, fun C C2 u hs hB hS hd => (by obtain ⟨l2, h1, h2⟩ := bl_data hs hB hS hd; exact ⟨l2, h1.trans hyl, h2⟩), ?_⟩; intro y2 hy2
                conv => whnf
                refine ⟨(j + 1, _), ⟨by omega, (by assumption)⟩, (by show y0.length - (j + 1) < y0.length - j; omega), ?_⟩
                refine ⟨?_, ?_, ?_⟩
                · skip
                  repeat ((conv => whnf); first | exact True.intro | refine ⟨.rfl, ?_⟩ | refine ⟨.any, ?_⟩ | refine ⟨.nil, ?_⟩ | refine ⟨.int (by first | rfl | omega | (simp only [wrs]; omega)), ?_⟩)
                · skip
                  repeat (first | exact LeVs.nil | ((conv => whnf); first | exact True.intro | exact .none | exact .row rfl | refine .cells ?_ | refine ⟨_, _, rfl, .rfl, ?_⟩ | refine ⟨_, _, rfl, .any, ?_⟩ | refine ⟨_, _, rfl, .nil, ?_⟩ | refine ⟨_, _, rfl, .int (by first | rfl | omega | (simp only [wrs]; omega)), ?_⟩ | refine ⟨?_, ?_⟩))
                · skip
                  repeat (first | exact LeFr.nil | ((conv => whnf); first | exact True.intro | refine ⟨.rfl, ?_⟩ | refine ⟨_, _, rfl, rfl, ?_, ?_⟩))
        · skip
          try simp only [bls] at hc3
          conv => whnf
          refine FinG.mk none ?_ (by rintro _ ⟨⟩)
          simp only [outs, List.length_map, List.length_append, List.length_take, List.length_drop, List.length_cons, List.length_nil, atC, entC, byC, atX, at6]
  · skip
    try simp only [bls] at hc1
    conv => whnf
    refine CallG.mk (last6_X _ _ i t F hi0 hi1 (by omega)) rfl ?_
    conv => whnf
    refine BinG.mk rfl rfl (neAt6_run _ _ _ _ _ _) ?_
    conv => whnf
    refine bF (by have hm : mayB i t F = true := (by assumption); simp [last_6 hm]; done) ?_
    conv => whnf
    refine bF (by have hm : mayB i t F = true := (by assumption); simp [last_6 hm]; done) ?_
    conv => whnf
    refine bF (by have hm : mayB i t F = true := (by assumption); simp [last_6 hm]; done) ?_
    conv => whnf
    refine bF (by have hm : mayB i t F = true := (by assumption); simp [last_6 hm]; done) ?_
    conv => whnf
    refine bF (by have hm : mayB i t F = true := (by assumption); simp [last_6 hm]; done) ?_
    conv => whnf
    refine XT.loop tabX_ok (Y := Nat) [0, 6, 9, 10, 11, 12, 13, 14, 15, 16, 17, 18, 19, 20, 21, 22, 23, 24, 25, 26, 27, 28, 29, 32, 33, 34, 35, 36, 38, 39, 42, 43, 44, 51, 52, 58, 59, 60, 61, 62, 63, 64, 65, 66, 67, 68, 69, 70, 71, 72, 73, 74, 75, 76, 77, 78, 79, 80, 81, 82, 83, 84, 85, 86, 87, 88, 89, 90, 91, 92, 93, 94, 95, 96, 97, 98, 99, 100, 101, 102, 103, 104, 105, 106, 107, 108, 109, 110, 111, 112, 113, 114, 115, 116, 117, 118, 119, 120, 121, 122, 123, 124, 125, 126, 127, 128, 129, 130, 131, 132, 133, 134, 135, 136, 137, 138, 139, 140, 141, 142, 143, 144, 145, 146, 147, 148, 149, 150, 151, 152, 153, 154, 155, 156, 157, 158, 159, 160, 161, 162, 163, 164, 165, 166, 167, 168, 169, 170, 171, 172, 173, 174, 175, 176, 177, 178, 179, 180, 181, 182, 183, 184, 185, 186, 187, 188, 189, 190, 191, 192, 193, 194, 195, 196, 197, 198, 199, 200] (fun k => [(58, .p (.v (.int .i64 (k : Int))) (nlv _))]) (fun k => []) (fun k => k ≤ ps.length) (fun k => ps.length - k) 0 (Nat.zero_le _) ?_ ?_
    · skip
      refine ⟨?_, ?_, ?_⟩
      · skip
        repeat ((conv => whnf); first | exact True.intro | refine ⟨.rfl, ?_⟩ | refine ⟨.any, ?_⟩ | refine ⟨.nil, ?_⟩ | refine ⟨.int (by first | rfl | omega | (simp only [wrs]; omega)), ?_⟩)
      · skip
        repeat (first | exact LeVs.nil | ((conv => whnf); first | exact True.intro | exact .none | exact .row rfl | refine .cells ?_ | refine ⟨_, _, rfl, .rfl, ?_⟩ | refine ⟨_, _, rfl, .any, ?_⟩ | refine ⟨_, _, rfl, .nil, ?_⟩ | refine ⟨_, _, rfl, .int (by first | rfl | omega | (simp only [wrs]; omega)), ?_⟩ | refine ⟨?_, ?_⟩))
      · skip
        repeat (first | exact LeFr.nil | ((conv => whnf); first | exact True.intro | refine ⟨.rfl, ?_⟩ | refine ⟨_, _, rfl, rfl, ?_, ?_⟩))
    · skip
      rintro k hk
      conv => whnf
      cases hc5 : (decide ((↑k : Int) < (↑(List.map atC ps).length : Int)))
      · skip
        try simp only [bls] at hc5
        conv => whnf
        refine FinG.mk none ?_ (by rintro _ ⟨⟩)
        simp only [outs, List.length_map, List.length_append, List.length_take, List.length_drop, List.length_cons, List.length_nil, atC, entC, byC, atX, at6]
      · skip
        try simp only [bls] at hc5
        conv => whnf
        refine IdxG.map _ rfl (by first | omega | (simp only [List.length_map] at *; omega)) ?_; intro o ho hko
        have hoo := hps o (List.mem_of_getElem? ho)
        have ho0 := hoo.1
        have ho1 := hoo.2
        obtain ⟨q0, hq0⟩ : ∃ q, ps[0]? = some q := ⟨ps[0]'(by omega), List.getElem?_eq_getElem _⟩
        have hq1 : (ps.map atC)[0]? = some (atC q0) := by rw [List.getElem?_map, hq0]; rfl
        conv => whnf
        refine ⟨rfl, ?_⟩
        conv => whnf
        cases hc6 : (decide ((↑k : Int) = 20))
        · skip
          try simp only [bls] at hc6
          conv => whnf
          refine XT.mark tabX_ok 11 [1, 3, 7, 11, 56] ?_
          intro M w1 us
          refine ⟨[(1, .pin (us 1) (.sl false (ps.map atC)) ((nl_ats _).sl)), (3, .pin (us 3) (.eptr [.v (.int .u64 i), .v (.int .u64 t), .sl false (F.map (entC false))]) ((pin_nl _ _ _).eptr)), (7, .pin (us 7) (.eptr [.v (.int .u64 i), .v (.int .u64 t), .sl false (F.map (entC false))]) ((pin_nl _ _ _).eptr)), (11, .pin (us 11) (.eptr [.v (.int .u64 o.1), .v (.int .u64 o.2)]) ((pin_at _).eptr)), (56, .pin (us 56) (.sl false (ps.map atC)) ((nl_ats _).sl))], ?_, ?_⟩
          · skip
            refine ⟨.pin rfl rfl (by simp [Pu, PuL, pu_ents, pu_ats]) (by simp only [untag, untagL, untag_ents, untag_ats]), ?_⟩
            refine ⟨.pin rfl rfl (by simp [Pu, PuL, pu_ents, pu_ats]) (by simp only [untag, untagL, untag_ents, untag_ats]), ?_⟩
            refine ⟨.pin rfl rfl (by simp [Pu, PuL, pu_ents, pu_ats]) (by simp only [untag, untagL, untag_ents, untag_ats]), ?_⟩
            refine ⟨.pin rfl rfl (by simp [Pu, PuL, pu_ents, pu_ats]) (by simp only [untag, untagL, untag_ents, untag_ats]), ?_⟩
            refine ⟨.pin rfl rfl (by simp [Pu, PuL, pu_ents, pu_ats]) (by simp only [untag, untagL, untag_ents, untag_ats]), ?_⟩
            exact True.intro
          · skip
            intro hpins
            obtain ⟨hp1, hp3, hp7, hp11, hp56, -⟩ : PinOk M w1 (us 1) (.sl false (ps.map atC)) ∧ PinOk M w1 (us 3) (.eptr [.v (.int .u64 i), .v (.int .u64 t), .sl false (F.map (entC false))]) ∧ PinOk M w1 (us 7) (.eptr [.v (.int .u64 i), .v (.int .u64 t), .sl false (F.map (entC false))]) ∧ PinOk M w1 (us 11) (.eptr [.v (.int .u64 o.1), .v (.int .u64 o.2)]) ∧ PinOk M w1 (us 56) (.sl false (ps.map atC)) ∧ True := hpins
            conv => whnf
            refine ⟨by assumption, ?_⟩
            conv => whnf
            refine ⟨by assumption, ?_⟩
            conv => whnf
            refine .ct ?_
            conv => whnf
            refine CallG.mk (term_X _ _ i t F hokF hi0 hi1 _) rfl ?_
            conv => whnf
            refine ⟨by assumption, ?_⟩
            conv => whnf
            refine ⟨by assumption, ?_⟩
            conv => whnf
            refine .ct ?_
            conv => whnf
            refine CallG.mk (term6_X _ _ i t F _ hi0 hi1 (by omega)) rfl ?_
            conv => whnf
            refine ⟨by assumption, ?_⟩
            conv => whnf
            refine ⟨by assumption, ?_⟩
            conv => whnf
            refine .ct ?_
            conv => whnf
            refine CallG.mk (from_X _ _ i t F hokF hi0 hi1 _ n ho0 ho1 hn1) rfl ?_
            conv => whnf
            refine ⟨by assumption, ?_⟩
            conv => whnf
            refine ⟨by assumption, ?_⟩
            conv => whnf
            refine .ct ?_
            conv => whnf
            refine CallG.mk (from6_X _ _ i t F _ n hokF.dok ho0 ho1 hi0 hi1 (by omega)) rfl ?_
            conv => whnf
            refine ⟨by assumption, ?_⟩
            conv => whnf
            refine ⟨by assumption, ?_⟩
            conv => whnf
            refine .ct ?_
            conv => whnf
            refine CallG.mk (conf_X _ _ i t F hokF hi0 hi1 _) rfl ?_
            conv => whnf
            refine ⟨by assumption, ?_⟩
            conv => whnf
            refine ⟨by assumption, ?_⟩
            conv => whnf
            refine .ct ?_
            conv => whnf
            refine CallG.mk (conf6_X _ _ i t F _ hokF.dok hi0 hi1 (by omega)) rfl ?_
            conv => whnf
            refine ⟨by assumption, ?_⟩
            conv => whnf
            refine ⟨by assumption, ?_⟩
            conv => whnf
            refine .ct ?_
            conv => whnf
            refine CallG.mk (has6_X _ _ i t F _ _ hi0 hi1 (by omega)) rfl ?_
            conv => whnf
            refine bF (by have hm : mayB i t F = true := (by assumption); simp [term_6 hi0 hm]; done) ?_
            conv => whnf
            refine bF (by have hm : mayB i t F = true := (by assumption); simp [term_6 hi0 hm]; done) ?_
            conv => whnf
            refine bF (by have hm : mayB i t F = true := (by assumption); simp [term_6 hi0 hm]; done) ?_
            conv => whnf
            refine bF (by have hm : mayB i t F = true := (by assumption); simp [term_6 hi0 hm]; done) ?_
            conv => whnf
            refine bF (by have hm : mayB i t F = true := (by assumption); simp [term_6 hi0 hm]; done) ?_
            conv => whnf
            refine bF (by have hm : mayB i t F = true := (by assumption); simp [term_6 hi0 hm]; done) ?_
            conv => whnf
            refine bF (by have hm : mayB i t F = true := (by assumption); simp [term_6 hi0 hm]; done) ?_
            conv => whnf
            refine BinG.mk rfl rfl (neAt6_run _ _ _ _ _ _) ?_
            conv => whnf
            refine bF (by have hm : mayB i t F = true := (by assumption); simp [term_6 hi0 hm]; done) ?_
            conv => whnf
            refine bF (by have hm : mayB i t F = true := (by assumption); simp [fromA_6 hi0 hm ho0]; done) ?_
            conv => whnf
            refine bF (by have hm : mayB i t F = true := (by assumption); simp [fromA_6 hi0 hm ho0]; done) ?_
            conv => whnf
            refine bF (by have hm : mayB i t F = true := (by assumption); simp [fromA_6 hi0 hm ho0]; done) ?_
            conv => whnf
            refine bF (by have hm : mayB i t F = true := (by assumption); simp [fromA_6 hi0 hm ho0]; done) ?_
            conv => whnf
            refine bF (by have hm : mayB i t F = true := (by assumption); simp [fromE_6 hi0 hm ho0]; done) ?_
            conv => whnf
            refine bF (by have hm : mayB i t F = true := (by assumption); simp [fromE_6 hi0 hm ho0]; done) ?_
            conv => whnf
            refine bF (by have hm : mayB i t F = true := (by assumption); simp [fromE_6 hi0 hm ho0]; done) ?_
            conv => whnf
            refine bF (by have hm : mayB i t F = true := (by assumption); simp [fromE_6 hi0 hm ho0]; done) ?_
            conv => whnf
            refine bF (by have hm : mayB i t F = true := (by assumption); simp [conf_6 hm]; done) ?_
            conv => whnf
            refine bF (by have hm : mayB i t F = true := (by assumption); simp [conf_6 hm]; done) ?_
            conv => whnf
            refine bF (by have hm : mayB i t F = true := (by assumption); simp [conf_6 hm]; done) ?_
            conv => whnf
            refine bF (by have hm : mayB i t F = true := (by assumption); simp [conf_6 hm]; done) ?_
            conv => whnf
            refine bF (by have hm : mayB i t F = true := (by assumption); simp [conf_6 hm]; done) ?_
            conv => whnf
            refine bF (by have hm : mayB i t F = true := (by assumption); simp [conf_6 hm]; done) ?_
            conv => whnf
            refine ⟨_, rfl, ?_⟩
            conv => whnf
            refine bF (by have hm : mayB i t F = true := (by assumption); simp [conf_6 hm]; done) ?_
            conv => whnf
            refine bF (by have hm : mayB i t F = true := (by assumption); simp [conf_6 hm]; done) ?_
            conv => whnf
            refine ⟨_, rfl, ?_⟩
            conv => whnf
            refine bF (by have hm : mayB i t F = true := (by assumption); simp [conf_6 hm]; done) ?_
            conv => whnf
            refine bF (by have hm : mayB i t F = true := (by assumption); simp [conf_6 hm]; done) ?_
            conv => whnf
            refine bF (notBs (by have hm : mayB i t F = true := (by assumption); rw [conf_6 hm])) ?_
            conv => whnf
            refine ⟨by assumption, ?_⟩
            conv => whnf
            refine bF (notBs (by have hm : mayB i t F = true := (by assumption); rw [conf_6 hm])) ?_
            conv => whnf
            refine ⟨by assumption, ?_⟩
            conv => whnf
            refine bF (notBs (by have hm : mayB i t F = true := (by assumption); rw [conf_6 hm])) ?_
            conv => whnf
            refine .ct ?_
            conv => whnf
            refine CallG.mk (hasx_X _ _ i t F hokF hi0 hi1 _) rfl ?_
            conv => whnf
            refine bF (notBs (by have hm : mayB i t F = true := (by assumption); rw [conf_6 hm])) ?_
            conv => whnf
            refine bF (notBs (by have hm : mayB i t F = true := (by assumption); rw [conf_6 hm])) ?_
            conv => whnf
            refine bF (notBs (by have hm : mayB i t F = true := (by assumption); rw [conf_6 hm])) ?_
            conv => whnf
            refine bF (by have hm : mayB i t F = true := (by assumption); simp [has_6 hi0 hm, hm]; done) ?_
            conv => whnf
            refine bF (by have hm : mayB i t F = true := (by assumption); simp [has_6 hi0 hm, hm]; done) ?_
            conv => whnf
            refine bF (by have hm : mayB i t F = true := (by assumption); simp [has_6 hi0 hm, hm]; done) ?_
            conv => whnf
            refine .ct ?_
            conv => whnf
            refine CallG.mk (sameE6_X _ _ _ _ _ _ (fromL_wo hWF _ _).d (fromL_wo hWF _ _).n) rfl ?_
            conv => whnf
            refine bF (by have hm : mayB i t F = true := (by assumption); simp [has_6 hi0 hm, hm]; done) ?_
            conv => whnf
            refine bF (by have hm : mayB i t F = true := (by assumption); simp [has_6 hi0 hm, hm]; done) ?_
            conv => whnf
            refine bF (notF (by have hm : mayB i t F = true := (by assumption); rw [fromL_6 hi0 hm ho0]; exact sameE_t rfl)) ?_
            conv => whnf
            refine RegG.unpin 1 rfl hp1 rfl rfl ?_
            refine RegG.unpin 11 rfl hp11 rfl rfl ?_
            refine RegG.par 11 (by kernel_rfl) ?_
            conv => whnf
            refine IdxG.mk hq1 rfl ?_
            conv => whnf
            refine ⟨rfl, ?_⟩
            conv => whnf
            refine CallG.mk (newer_X _ _) rfl ?_
            conv => whnf
            refine IdxG.mk hq1 rfl ?_
            conv => whnf
            refine ⟨rfl, ?_⟩
            conv => whnf
            refine CallG.mk (newer6_X _ _) rfl ?_
            conv => whnf
            refine bF (by simp) ?_
            conv => whnf
            refine .wr (WCall.spoilB 23 (fun y : List Int => .p (.sl true (y.map byC)) (nl_byc _).sl) (fun y => y.length = (confR i t o.1 F).2.1.length) (fromL_wo hWF o.1 n).S rfl rfl (fun C C2 u hs hB hS hd => bl_data hs hB hS hd) ?_); intro y0 hy0; have hyl0 := conf_len (i := i) (t := t) (x := o.1) hWF
            conv => whnf
            refine XT.marks [(29, .p (.v (.bool true)) (nlv _))] ?_
            refine XT.loop tabX_ok (Y := Nat × List Int) [23, 29, 184, 186, 187, 188, 189, 190, 191, 192, 193, 194, 195] (fun (j, y) => [(186, .p (.v (.int .i64 (j : Int))) (nlv _)), (23, .p (.sl true (y.map byC)) (nl_byc _).sl)]) (fun (j, y) => []) (fun (j, y) => j ≤ y0.length ∧ y.length = y0.length) (fun (j, y) => y0.length - j) (0, y0) ⟨Nat.zero_le _, rfl⟩ ?_ ?_
            · skip
              refine ⟨?_, ?_, ?_⟩
              · skip
                repeat ((conv => whnf); first | exact True.intro | refine ⟨.rfl, ?_⟩ | refine ⟨.any, ?_⟩ | refine ⟨.nil, ?_⟩ | refine ⟨.int (by first | rfl | omega | (simp only [wrs]; omega)), ?_⟩)
              · skip
                repeat (first | exact LeVs.nil | ((conv => whnf); first | exact True.intro | exact .none | exact .row rfl | refine .cells ?_ | refine ⟨_, _, rfl, .rfl, ?_⟩ | refine ⟨_, _, rfl, .any, ?_⟩ | refine ⟨_, _, rfl, .nil, ?_⟩ | refine ⟨_, _, rfl, .int (by first | rfl | omega | (simp only [wrs]; omega)), ?_⟩ | refine ⟨?_, ?_⟩))
              · skip
                repeat (first | exact LeFr.nil | ((conv => whnf); first | exact True.intro | refine ⟨.rfl, ?_⟩ | refine ⟨_, _, rfl, rfl, ?_, ?_⟩))
            · skip
              rintro ⟨j, y⟩ ⟨hj, hyl⟩
              conv => whnf
              cases hc7 : (decide ((↑j : Int) < (↑(List.map byC y0).length : Int)))
              · skip
                try simp only [bls] at hc7
                conv => whnf
                refine ⟨⟨⟨_, _, rfl⟩, rfl, ⟨_, _, rfl⟩, rfl, ⟨_, _, rfl⟩, rfl, ⟨_, _, rfl⟩, rfl, ⟨_, _, rfl⟩, rfl, True.intro⟩, ?_⟩
                conv => whnf
                refine XT.of tabX_ok ?_
                conv => whnf
                refine .ct ?_
                conv => whnf
                refine CallG.mk (same6_W _ _ _ _ _ _ _ _ _ hWF) rfl ?_
                conv => whnf
                refine bF (notF (sameL_self _ _ _)) ?_
                conv => whnf
                refine ⟨(k + 1), (by first | omega | (simp only [List.length_map] at *; omega)), (by first | omega | (simp only [List.length_map] at *; omega)), ?_⟩
                refine ⟨?_, ?_, ?_⟩
                · skip
                  repeat ((conv => whnf); first | exact True.intro | refine ⟨.rfl, ?_⟩ | refine ⟨.any, ?_⟩ | refine ⟨.nil, ?_⟩ | refine ⟨.int (by first | rfl | omega | (simp only [wrs]; omega)), ?_⟩)
                · skip
                  repeat (first | exact LeVs.nil | ((conv => whnf); first | exact True.intro | exact .none | exact .row rfl | refine .cells ?_ | refine ⟨_, _, rfl, .rfl, ?_⟩ | refine ⟨_, _, rfl, .any, ?_⟩ | refine ⟨_, _, rfl, .nil, ?_⟩ | refine ⟨_, _, rfl, .int (by first | rfl | omega | (simp only [wrs]; omega)), ?_⟩ | refine ⟨?_, ?_⟩))
                · skip
                  repeat (first | exact LeFr.nil | ((conv => whnf); first | exact True.intro | refine ⟨.rfl, ?_⟩ | refine ⟨_, _, rfl, rfl, ?_, ?_⟩))
              · skip
                try simp only [bls] at hc7
                conv => whnf
                refine XT.over tabX_ok 5 23 (fun y : List Int => .p (.sl true (y.map byC)) (nl_byc _).sl) (fun y => y.length = y0.length) rfl ⟨rfl, rfl, rfl⟩ ⟨rfl, rfl, rfl⟩ (tT rfl) rfl (tT rfl) rfl (tT rfl) rfl rfl rfl ?_ rfl
                conv => whnf
                refine IdxG.map _ rfl (by first | omega | (simp only [bls] at *; omega)) ?_; intro x_4 hx_4 hk_4
                conv => whnf
                refine ⟨rfl, ?_⟩
                conv => whnf
                refine ⟨y, _, j, _, _, rfl, rfl, by omega, fun v => rfl, fun C C2 u hs hB hS hd => (by obtain ⟨l2, h1, h2⟩ := bl_data hs hB hS hd; exact ⟨l2, h1.trans hyl, h2⟩), ?_⟩; intro y2 hy2
                conv => whnf
                refine ⟨(j + 1, _), ⟨by omega, (by assumption)⟩, (by show y0.length - (j + 1) < y0.length - j; omega), ?_⟩
                refine ⟨?_, ?_, ?_⟩
                · skip
                  repeat ((conv => whnf); first | exact True.intro | refine ⟨.rfl, ?_⟩ | refine ⟨.any, ?_⟩ | refine ⟨.nil, ?_⟩ | refine ⟨.int (by first | rfl | omega | (simp only [wrs]; omega)), ?_⟩)
                · skip
                  repeat (first | exact LeVs.nil | ((conv => whnf); first | exact True.intro | exact .none | exact .row rfl | refine .cells ?_ | refine ⟨_, _, rfl, .rfl, ?_⟩ | refine ⟨_, _, rfl, .any, ?_⟩ | refine ⟨_, _, rfl, .nil, ?_⟩ | refine ⟨_, _, rfl, .int (by first | rfl | omega | (simp only [wrs]; omega)), ?_⟩ | refine ⟨?_, ?_⟩))
                · skip
                  repeat (first | exact LeFr.nil | ((conv => whnf); first | exact True.intro | refine ⟨.rfl, ?_⟩ | refine ⟨_, _, rfl, rfl, ?_, ?_⟩))
        · skip
          try simp only [bls] at hc6
          conv => whnf
          refine FinG.mk none ?_ (by rintro _ ⟨⟩)
          simp only [outs, List.length_map, List.length_append, List.length_take, List.length_drop, List.length_cons, List.length_nil, atC, entC, byC, atX, at6]
end Go.Proofs.Ytpckkajodpiiaaa
