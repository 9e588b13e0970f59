/- Where tokens stand: the walk of LexPlaces. Condition: what the package-level variables hold. -/
import Derived.Test.YtekpmlfcmnlmiaaDoorJQ
namespace Go.Proofs.YtekpmlfcmnlmiaaDoor
open Go.RowKit
set_option linter.unusedVariables false
set_option linter.unusedSimpArgs false
set_option maxRecDepth 20000
theorem lex_or (s : ByteArray) : (∃ l, lexT s = (l, (0, 0)) ∧ plcs s 0 l ∧ l.length ≤ 300 ∧ chkN l = 0 ∧ TokInL l) ∨ (∃ e a, lexT s = ([], (e, a)) ∧ ¬ e = 0 ∧ 0 ≤ a ∧ a ≤ (s.size : Int)) := by
  by_cases h : (lexT s).2.1 = 0
  · have h2 := (lex_ok h).2.2.2.2
    refine .inl ⟨(lexT s).1, ?_, lex_plc h, lex_len s, lex_chk h, lex_in s⟩
    exact Prod.ext rfl (Prod.ext h h2)
  · obtain ⟨h1, h2, h3, h4⟩ := lex_no (s := s) fun hh => h hh.1
    exact .inr ⟨(lexT s).2.1, (lexT s).2.2, by rw [← h1], h2, h3, h4⟩
theorem lexAs {s : ByteArray} {l : List Yl} {e a : Int} (hs : s.size ≤ 1000000) (h : lexT s = (l, (e, a))) : XMeets Tryd.prog 17 [.v (.string s)] (.tu [.ow 43 5 (l.map tokC) (nl_tok _), .ag [.p (.v (.int .i64 e)) (nlv _), .p (.v (.int .i64 a)) (nlv _)]]) := (lex_X s hs).eq (by rw [h])
theorem plc_end {s : ByteArray} {e k : Nat} {l : List Yl} (h : plcs s e (l.drop k)) (hk : l.length ≤ k) : e ≤ s.size ∧ lexT (s.extract e s.size) = ([], (0, 0)) := by
  rw [List.drop_of_length_le hk] at h; exact h
theorem plc_at {s : ByteArray} {e k : Nat} {l : List Yl} {y : Yl} (h : plcs s e (l.drop k)) (hy : l[k]? = some y) : ∃ a z : Nat, y.a = (a : Int) ∧ y.z = (z : Int) ∧ e ≤ a ∧ a < z ∧ z ≤ s.size ∧ lexT (s.extract e a) = ([], (0, 0)) ∧ (∃ x, lexT (s.extract a z) = ([x], (0, 0)) ∧ smeL [x] [y] = true) ∧ plcs s z (l.drop (k + 1)) := by
  obtain ⟨hk, rfl⟩ := List.getElem?_eq_some_iff.1 hy
  rw [List.drop_eq_getElem_cons hk] at h
  obtain ⟨a, z, h1, h2, h3, h4, h5, h6, ⟨x, h7, h8⟩, h9⟩ := h
  exact ⟨a, z, h1, h2, h3, h4, h5, h6, ⟨x, h7, by simp [smeL, h8]⟩, h9⟩
theorem same_one {x y : Yl} (h : smeL [x] [y] = true) : XMeets Tryd.prog 18 [.sl true ([x].map tokC), .sl true [tokC y]] (.p (.v (.bool true)) (nlv _)) := (same_X true true [x] [y] (by simp)).eq (by rw [h])
attribute [local irreducible] lexT plcs smeL chkN prT
set_option maxRecDepth 20000 in
theorem text_X (s : ByteArray) : XMeets Tryd.prog 19 [.v (.string s)] (.p (.v (.string (begS 1025 s))) (nlv _)) := by
  refine XMeets.of_X tabX_ok (avs := [.p (.v (.string s)) (nlv _)]) [(0, .p (.v (.string s)) (nlv _))] (by kernel_rfl) Tryd.func19 rfl (by simp [PuL, Pu]) (rfl) rfl rfl ?_
  intro B w0
  conv => whnf
  refine ⟨_, (Int.toNat_of_nonneg (by omega)).symm, ?_⟩
  conv => whnf
  refine ⟨by omega, ?_⟩
  conv => whnf
  refine ⟨by omega, ?_⟩
  conv => whnf
  refine FinG.mk none ?_ (by rintro _ ⟨⟩)
  simp only [outs, List.length_map, List.length_append, List.length_take, List.length_drop, List.length_cons, List.length_nil]
set_option maxRecDepth 20000 in
theorem lPlaces_X (s : ByteArray) : XMeets Tryd.prog 5 [.v (.string s)] (.p (.v (.bool (true))) (nlv _)) := by
  refine XMeets.of_X tabX_ok (avs := [.p (.v (.string s)) (nlv _)]) [(0, .p (.v (.string s)) (nlv _))] (by kernel_rfl) Tryd.func5 rfl (by simp [PuL, Pu]) (rfl) rfl rfl ?_
  intro B w0
  have hbs := begS_size 1025 (by omega) s
  rcases lex_or (begS 1025 s) with ⟨l, hlex, hpl, hll, hch, hin⟩ | ⟨ee, ea, hlex, hne, ha0, ha1⟩
  · skip
    conv => whnf
    refine .ct ?_
    conv => whnf
    refine CallG.mk (wakes_X) rfl ?_
    conv => whnf
    refine .ct ?_
    conv => whnf
    refine CallG.mk (text_X _) rfl ?_
    conv => whnf
    refine .ct ?_
    conv => whnf
    refine CallG.mk (lexAs (by first | omega | (simp; omega)) hlex) rfl ?_
    conv => whnf
    refine BinG.mk rfl rfl (neSp_run _ _ _ _ _ _) ?_
    conv => whnf
    refine XT.loop tabX_ok (Y := (Nat × Nat)) [2, 5, 7, 8, 9, 10, 11, 31, 32, 33, 34, 35, 36, 37, 38, 39, 40, 41, 42, 43, 44, 45, 46, 47, 48, 49, 50, 51, 52, 53, 54, 55, 56, 57, 58, 59, 60, 61, 62, 63, 64, 65, 66, 67, 68, 69, 70, 71, 72, 73, 74, 75, 76, 77, 78, 79, 80, 81, 82, 83, 84, 85, 86, 87, 88, 89, 90, 91, 92, 93, 94, 95, 96, 97] (fun ⟨k, e⟩ => [(31, .p (.v (.int .i64 ((k : Int)))) (nlv _)), (5, .p (.v (.int .i64 ((e : Int)))) (nlv _))]) (fun ⟨k, e⟩ => []) (fun ⟨k, e⟩ => k ≤ l.length ∧ plcs (begS 1025 s) e (l.drop k)) (fun ⟨k, e⟩ => l.length - k) (0, 0) ⟨Nat.zero_le _, hpl⟩ ?_ ?_
    · skip
      refine ⟨?_, ?_, ?_⟩
      · skip
        refine leEnv_app (by kernel_rfl) (by kernel_rfl) ?_
        repeat ((conv => whnf); first | exact True.intro | refine ⟨.rfl, ?_⟩ | refine ⟨.any, ?_⟩ | refine ⟨.nil, ?_⟩ | refine ⟨.int (by first | rfl | omega | (simp only [wrs]; omega)), ?_⟩)
      · skip
        repeat (first | exact LeVs.nil | ((conv => whnf); first | exact True.intro | exact .none | exact .row rfl | refine .cells ?_ | refine ⟨_, _, rfl, .rfl, ?_⟩ | refine ⟨_, _, rfl, .any, ?_⟩ | refine ⟨_, _, rfl, .nil, ?_⟩ | refine ⟨_, _, rfl, .int (by first | rfl | omega | (simp only [wrs]; omega)), ?_⟩ | refine ⟨?_, ?_⟩))
        done
      · skip
        exact LeFr.nil
    · skip
      rintro ⟨k, e⟩ ⟨hk, hp⟩
      conv => whnf
      refine bS (fun hc1 => ?_) (fun hc1 => ?_)
      · skip
        try simp only [bls] at hc1
        conv => whnf
        refine ⟨_, rfl, ?_⟩
        conv => whnf
        refine ⟨by simp only [bls]; omega, ?_⟩
        conv => whnf
        refine IdxG.map (f := tokC) (l := l) k rfl (by first | omega | (simp only [List.length_map] at *; omega)) ?_; intro y hy hky; obtain ⟨a, z, ha, hz, hea, haz, hzs, hb, ⟨x, hx, hsm⟩, hq⟩ := plc_at hp hy; obtain ⟨yk, yt, yn, ya, yz, ye⟩ := y; dsimp only at ha hz; subst ha; subst hz
        conv => whnf
        refine bF (by simp only [wrs, decide_eq_false_iff_not, List.length_map, List.length_append, List.length_take, List.length_drop, List.length_cons, List.length_nil]; omega) ?_
        conv => whnf
        refine bF (by simp only [wrs, decide_eq_false_iff_not, List.length_map, List.length_append, List.length_take, List.length_drop, List.length_cons, List.length_nil]; omega) ?_
        conv => whnf
        refine bF (by simp only [wrs, decide_eq_false_iff_not, List.length_map, List.length_append, List.length_take, List.length_drop, List.length_cons, List.length_nil]; omega) ?_
        conv => whnf
        refine bF (by simp only [wrs, decide_eq_false_iff_not, List.length_map, List.length_append, List.length_take, List.length_drop, List.length_cons, List.length_nil]; omega) ?_
        conv => whnf
        refine bF (by simp only [wrs, decide_eq_false_iff_not, List.length_map, List.length_append, List.length_take, List.length_drop, List.length_cons, List.length_nil]; omega) ?_
        conv => whnf
        refine bF (by simp only [wrs, decide_eq_false_iff_not, List.length_map, List.length_append, List.length_take, List.length_drop, List.length_cons, List.length_nil]; omega) ?_
        conv => whnf
        refine bF (by simp only [wrs, decide_eq_false_iff_not, List.length_map, List.length_append, List.length_take, List.length_drop, List.length_cons, List.length_nil]; omega) ?_
        conv => whnf
        refine bF (by simp only [wrs, decide_eq_false_iff_not, List.length_map, List.length_append, List.length_take, List.length_drop, List.length_cons, List.length_nil]; omega) ?_
        conv => whnf
        refine bF (by simp only [wrs, decide_eq_false_iff_not, List.length_map, List.length_append, List.length_take, List.length_drop, List.length_cons, List.length_nil]; omega) ?_
        conv => whnf
        refine bF (by simp only [wrs, decide_eq_false_iff_not, List.length_map, List.length_append, List.length_take, List.length_drop, List.length_cons, List.length_nil]; omega) ?_
        conv => whnf
        refine bF (by simp only [wrs, decide_eq_false_iff_not, List.length_map, List.length_append, List.length_take, List.length_drop, List.length_cons, List.length_nil]; omega) ?_
        conv => whnf
        refine bF (by simp only [wrs, decide_eq_false_iff_not, List.length_map, List.length_append, List.length_take, List.length_drop, List.length_cons, List.length_nil]; omega) ?_
        conv => whnf
        refine bF (by simp only [wrs, decide_eq_false_iff_not, List.length_map, List.length_append, List.length_take, List.length_drop, List.length_cons, List.length_nil]; omega) ?_
        conv => whnf
        refine ⟨_, rfl, ?_⟩
        conv => whnf
        refine ⟨_, rfl, ?_⟩
        conv => whnf
        refine ⟨by assumption, ?_⟩
        conv => whnf
        refine ⟨by omega, ?_⟩
        conv => whnf
        refine .ct ?_
        conv => whnf
        refine CallG.mk (lexAs (by simp; omega) hb) rfl ?_
        conv => whnf
        refine BinG.mk rfl rfl (neSp_run _ _ _ _ _ _) ?_
        conv => whnf
        refine ⟨_, rfl, ?_⟩
        conv => whnf
        refine ⟨_, rfl, ?_⟩
        conv => whnf
        refine ⟨by omega, ?_⟩
        conv => whnf
        refine ⟨by assumption, ?_⟩
        conv => whnf
        refine .ct ?_
        conv => whnf
        refine CallG.mk (lexAs (by simp; omega) hx) rfl ?_
        conv => whnf
        refine BinG.mk rfl rfl (neSp_run _ _ _ _ _ _) ?_
        conv => whnf
        refine .ct ?_
        conv => whnf
        refine CallG.mk (same_one hsm) rfl ?_
        conv => whnf
        refine ⟨(k + 1, z), ⟨by first | omega | (simp only [List.length_map] at *; omega), hq⟩, (by first | omega | (simp only [List.length_map] at *; omega)), ?_⟩
        refine ⟨?_, ?_, ?_⟩
        · skip
          refine leEnv_app (by kernel_rfl) (by kernel_rfl) ?_
          repeat ((conv => whnf); first | exact True.intro | refine ⟨.rfl, ?_⟩ | refine ⟨.any, ?_⟩ | refine ⟨.nil, ?_⟩ | refine ⟨.int (by first | rfl | omega | (simp only [wrs]; omega)), ?_⟩)
        · skip
          repeat (first | exact LeVs.nil | ((conv => whnf); first | exact True.intro | exact .none | exact .row rfl | refine .cells ?_ | refine ⟨_, _, rfl, .rfl, ?_⟩ | refine ⟨_, _, rfl, .any, ?_⟩ | refine ⟨_, _, rfl, .nil, ?_⟩ | refine ⟨_, _, rfl, .int (by first | rfl | omega | (simp only [wrs]; omega)), ?_⟩ | refine ⟨?_, ?_⟩))
          done
        · skip
          exact LeFr.nil
      · skip
        try simp only [bls] at hc1
        conv => whnf
        refine ⟨_, rfl, ?_⟩
        conv => whnf
        refine ⟨(plc_end hp (by first | omega | (simp only [List.length_map] at *; omega))).1, ?_⟩
        conv => whnf
        refine ⟨by omega, ?_⟩
        conv => whnf
        refine .ct ?_
        conv => whnf
        refine CallG.mk (lexAs (by simp; omega) (plc_end hp (by first | omega | (simp only [List.length_map] at *; omega))).2) rfl ?_
        conv => whnf
        refine BinG.mk rfl rfl (eqSp_run _ _ _ _ _ _) ?_
        conv => whnf
        refine FinG.mk none ?_ (by rintro _ ⟨⟩)
        simp only [outs, List.length_map, List.length_append, List.length_take, List.length_drop, List.length_cons, List.length_nil]
        simp; done
  · skip
    conv => whnf
    refine .ct ?_
    conv => whnf
    refine CallG.mk (wakes_X) rfl ?_
    conv => whnf
    refine .ct ?_
    conv => whnf
    refine CallG.mk (text_X _) rfl ?_
    conv => whnf
    refine .ct ?_
    conv => whnf
    refine CallG.mk (lexAs (by first | omega | (simp; omega)) hlex) rfl ?_
    conv => whnf
    refine BinG.mk rfl rfl (neSp_run _ _ _ _ _ _) ?_
    conv => whnf
    refine bT (by simp [hne]) ?_
    conv => whnf
    refine FinG.mk none ?_ (by rintro _ ⟨⟩)
    simp only [outs, List.length_map, List.length_append, List.length_take, List.length_drop, List.length_cons, List.length_nil]
    simp; done
end Go.Proofs.YtekpmlfcmnlmiaaDoor
