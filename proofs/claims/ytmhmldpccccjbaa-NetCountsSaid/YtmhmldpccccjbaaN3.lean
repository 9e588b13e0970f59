/- What is meant, lost, delivered, doubled and sent. No condition. -/
import Derived.Test.YtmhmldpccccjbaaN2
import Derived.Test.YtmhmldpccccjbaaT21
namespace Go.Proofs.Ytmhmldpccccjbaa
open Go.RowKit
set_option linter.unusedVariables false
set_option linter.unusedSimpArgs false
set_option maxRecDepth 20000
theorem mtw {p : Int} {i : Nat} (hp : 0 ≤ p) (h1 : p < 9223372036854775808) (hi : i ≤ 80) : (IntKind.i64.wrap (p.tmod 80 + (i : Int))).tmod 80 = mtN p i := by
  unfold mtN
  rw [Int.tmod_eq_emod_of_nonneg hp, show IntKind.i64.wrap (p % 80 + (i : Int)) = p % 80 + (i : Int) from by rw [IntKind.wrap_i64]; omega, Int.tmod_eq_emod_of_nonneg (by omega)]
theorem at_Y (b c e : Bool) (n : NetA) {x x' : Int} (h : x' = x) (hs : WayS n.s) (hx : inWay x) : XMeets Try.prog 68 [netT b c e n, .v (.int .i64 x')] (.tu [.p (.v (.int .i64 (posS n.s x : Int))) (nlv _), .p (.v (.bool (hasS n.s x))) (nlv _)]) := by
  subst h; exact at_X b c e n _ hs hx
set_option maxRecDepth 20000 in
theorem meant_X (b c e : Bool) (n : NetA) (p : Int) (hs : WayS n.s) (hp1 : p < 9223372036854775808) (R : Int × Int) (hR : mtK n.s p = R) : XMeets Try.prog 74 [netT b c e n, .v (.int .i64 p)] (.tu [.p (.v (.int .i64 (R.1))) (nlv _), .p (.v (.int .i64 (R.2))) (nlv _)]) := by
  refine XMeets.of_X tabX_ok (avs := [.ag [.p (.sl false (n.s.map (slC false))) (nl_sl _ _).sl, .p (.v (.int .i64 n.l)) (nlv _), .p (.sl false (n.d.map dfC)) (nl_df _).sl], .p (.v (.int .i64 p)) (nlv _)]) [(0, .ag [.p (.sl false (n.s.map (slC false))) (nl_sl _ _).sl, .p (.v (.int .i64 n.l)) (nlv _), .p (.sl false (n.d.map dfC)) (nl_df _).sl]), (1, .p (.v (.int .i64 p)) (nlv _))] (by kernel_rfl) Try.func74 rfl (by simp [PuL, Pu, netT, slC, dfC, pu_by1, pu_sl, pu_df]) (by simp only [untagL, untag, netT, untag_by1, untag_sl, untag_df]; rfl) rfl rfl ?_
  intro B w0
  have hsn := hs.n
  by_cases hp : p < 0
  · skip
    obtain rfl : (0, 2) = R := by rw [← hR]; unfold mtK; rw [if_pos hp]
    conv => whnf
    rw [show (decide (p < 0)) = true from decide_eq_true (by omega)]
    conv => whnf
    refine FinG.mk none ?_ (by rintro _ ⟨⟩)
    simp only [outs, List.length_map, List.length_append, List.length_take, List.length_drop, List.length_cons, List.length_nil, slC, dfC, netX, net0, List.map_nil, mix_len]
  · skip
    conv => whnf
    rw [show (decide (p < 0)) = false from decide_eq_false (by omega)]
    conv => whnf
    refine XT.loop tabX_ok (Y := Nat) [4, 5, 6, 7, 8, 11, 12, 13, 14, 15, 16, 17, 18, 19, 20, 21, 22, 23, 24, 25, 26] (fun i => [(11, .p (.v (.int .i64 ((i : Int)))) (nlv _)), (4, .p (.v (.int .i64 (0))) (nlv _)), (5, .p (.v (.int .i64 (4))) (nlv _))]) (fun i => []) (fun i => i ≤ 80 ∧ ∀ j, j < i → hasS n.s (mtN p j) = false) (fun i => 80 - i) 0 ⟨by omega, fun j hj => by omega⟩ ?_ ?_
    · skip
      refine ⟨?_, ?_, ?_⟩
      · skip
        repeat ((conv => whnf); first | exact True.intro | refine ⟨.rfl, ?_⟩ | refine ⟨.any, ?_⟩ | refine ⟨.nil, ?_⟩ | refine ⟨.int (by first | rfl | omega | (simp only [wrs]; omega)), ?_⟩)
      · skip
        repeat (first | exact LeVs.nil | ((conv => whnf); first | exact True.intro | exact .none | exact .row rfl | refine .cells ?_ | refine ⟨_, _, rfl, .rfl, ?_⟩ | refine ⟨_, _, rfl, .any, ?_⟩ | refine ⟨_, _, rfl, .nil, ?_⟩ | refine ⟨_, _, rfl, .int (by first | rfl | omega | (simp only [wrs]; omega)), ?_⟩ | refine ⟨?_, ?_⟩))
      · skip
        repeat (first | exact LeFr.nil | ((conv => whnf); first | exact True.intro | refine ⟨.rfl, ?_⟩ | refine ⟨_, _, rfl, rfl, ?_, ?_⟩))
    · skip
      rintro i ⟨hi, h2⟩
      conv => whnf
      cases hc1 : (decide ((↑i : Int) < 80))
      · skip
        try simp only [bls] at hc1
        conv => whnf
        refine FinG.mk none ?_ (by rintro _ ⟨⟩)
        simp only [outs, List.length_map, List.length_append, List.length_take, List.length_drop, List.length_cons, List.length_nil, slC, dfC, netX, net0, List.map_nil, mix_len]
        rw [mtK_f (by omega) (fun j hj => h2 j (by omega))] at hR
        subst hR
        exact ⟨rfl, rfl⟩
      · skip
        try simp only [bls] at hc1
        conv => whnf
        refine .ct ?_
        conv => whnf
        refine CallG.mk (at_Y _ _ _ n (mtw (by omega) hp1 (by omega)) hs (mtN_way _ _)) rfl ?_
        conv => whnf
        cases hc2 : (hasS n.s (mtN p i))
        · skip
          try simp only [bls] at hc2
          conv => whnf
          refine ⟨(i + 1), ⟨by omega, fun j hj => by rcases Nat.lt_or_ge j i with h8 | h8; exact h2 j h8; obtain rfl : j = i := (by omega); assumption⟩, (by omega), ?_⟩
          refine ⟨?_, ?_, ?_⟩
          · skip
            repeat ((conv => whnf); first | exact True.intro | refine ⟨.rfl, ?_⟩ | refine ⟨.any, ?_⟩ | refine ⟨.nil, ?_⟩ | refine ⟨.int (by first | rfl | omega | (simp only [wrs]; omega)), ?_⟩)
          · skip
            repeat (first | exact LeVs.nil | ((conv => whnf); first | exact True.intro | exact .none | exact .row rfl | refine .cells ?_ | refine ⟨_, _, rfl, .rfl, ?_⟩ | refine ⟨_, _, rfl, .any, ?_⟩ | refine ⟨_, _, rfl, .nil, ?_⟩ | refine ⟨_, _, rfl, .int (by first | rfl | omega | (simp only [wrs]; omega)), ?_⟩ | refine ⟨?_, ?_⟩))
          · skip
            repeat (first | exact LeFr.nil | ((conv => whnf); first | exact True.intro | refine ⟨.rfl, ?_⟩ | refine ⟨_, _, rfl, rfl, ?_, ?_⟩))
        · skip
          try simp only [bls] at hc2
          conv => whnf
          refine FinG.mk none ?_ (by rintro _ ⟨⟩)
          simp only [outs, List.length_map, List.length_append, List.length_take, List.length_drop, List.length_cons, List.length_nil, slC, dfC, netX, net0, List.map_nil, mix_len]
          rw [mtK_t (by omega) (by omega) (by assumption) h2] at hR
          subst hR
          exact ⟨rfl, rfl⟩
theorem meant_Y (b c e : Bool) (n : NetA) {p a g : Int} (hs : WayS n.s) (hp1 : p < 9223372036854775808) (h : mtK n.s p = (a, g)) : XMeets Try.prog 74 [netT b c e n, .v (.int .i64 p)] (.tu [.p (.v (.int .i64 a)) (nlv _), .p (.v (.int .i64 g)) (nlv _)]) := meant_X b c e n p hs hp1 _ h
theorem net_cases (n : NetA) (p : Int) : rightB n = false ∨ (rightB n = true ∧ ∃ g, g ≠ 0 ∧ mtK n.s p = (0, g)) ∨ (rightB n = true ∧ ∃ (k : Nat) (x : Sl), n.s[k]? = some x ∧ mtK n.s p = ((k : Int), 0)) := by
  cases h : rightB n with
  | false => exact .inl rfl
  | true =>
    rcases mt_cases h p with ⟨_, h1⟩ | ⟨_, _, h1⟩ | ⟨_, h1⟩
    · exact .inr (.inl ⟨rfl, 2, by decide, h1⟩)
    · exact .inr (.inl ⟨rfl, 4, by decide, h1⟩)
    · exact .inr (.inr ⟨rfl, h1⟩)
def pkX (x : Sl) : XV := .ag [.p (.v (.int .i64 x.f)) (nlv _), .p (.v (.int .i64 x.t)) (nlv _), .p (.sl true (x.b.map by1)) (nl_by1 _).sl]
def slX (x : Sl) : XV := .ag [.p (.v (.int .i64 x.a)) (nlv _), .p (.v (.int .i64 x.f)) (nlv _), .p (.v (.int .i64 x.t)) (nlv _), .p (.sl true (x.b.map by1)) (nl_by1 _).sl]
theorem slot_at {s : List Sl} {k : Nat} {x : Sl} (h : s[k]? = some x) : (s.map (slC true))[k]? = some (slC true x) := by rw [List.getElem?_map, h]; rfl
theorem slot_lt {s : List Sl} {k : Nat} {x : Sl} (h : s[k]? = some x) : k < s.length := (List.getElem?_eq_some_iff.1 h).1
set_option maxRecDepth 20000 in
theorem lose_X (b c e : Bool) (n : NetA) (p : Int) (ho : n.Ok) (hp1 : p < 9223372036854775808) (R : NetA × Int) (hR : R = loseN n p) : XMeets Try.prog 32 [netT b c e n, .v (.int .i64 p)] (.tu [netX R.1, .p (.v (.int .i64 (R.2))) (nlv _)]) := by
  refine XMeets.of_X tabX_ok (avs := [.ag [.p (.sl false (n.s.map (slC false))) (nl_sl _ _).sl, .p (.v (.int .i64 n.l)) (nlv _), .p (.sl false (n.d.map dfC)) (nl_df _).sl], .p (.v (.int .i64 p)) (nlv _)]) [(0, .ag [.p (.sl false (n.s.map (slC false))) (nl_sl _ _).sl, .p (.v (.int .i64 n.l)) (nlv _), .p (.sl false (n.d.map dfC)) (nl_df _).sl]), (1, .p (.v (.int .i64 p)) (nlv _))] (by kernel_rfl) Try.func32 rfl (by simp [PuL, Pu, netT, slC, dfC, pu_by1, pu_sl, pu_df]) (by simp only [untagL, untag, netT, untag_by1, untag_sl, untag_df]; rfl) rfl rfl ?_
  intro B w0
  have hsn := ho.sn
  have hdn := ho.dn
  rcases net_cases n p with hr | ⟨hr, g, hg, hK⟩ | ⟨hr, k0, x, hx, hK⟩
  · skip
    rw [show loseN n p = (net0, 330) from by simp [loseN, hr]] at hR
    subst hR
    conv => whnf
    refine .inl ?_
    conv => whnf
    refine InlG.mk (by kernel_rfl) Try.func55 rfl (Nat.le_of_ble_eq_true rfl) (XT.of tabX_ok ?_)
    conv => whnf
    refine InlG.mk (by kernel_rfl) Try.func44 rfl (Nat.le_of_ble_eq_true rfl) (XT.of tabX_ok ?_)
    conv => whnf
    refine .ct ?_
    conv => whnf
    refine CallG.mk (check_f (by assumption) _ _ _ ho) rfl ?_
    conv => whnf
    refine ⟨.inr rfl, ?_⟩
    conv => whnf
    refine ⟨.inr rfl, ?_⟩
    conv => whnf
    refine FinG.mk none ?_ (by rintro _ ⟨⟩)
    simp only [outs, List.length_map, List.length_append, List.length_take, List.length_drop, List.length_cons, List.length_nil, slC, dfC, netX, net0, List.map_nil, mix_len, pkX, slX, sl0, delS]
  · skip
    rw [show loseN n p = (net0, g) from by simp [loseN, hr, hK, hg]] at hR
    subst hR
    conv => whnf
    refine .inl ?_
    conv => whnf
    refine InlG.mk (by kernel_rfl) Try.func55 rfl (Nat.le_of_ble_eq_true rfl) (XT.of tabX_ok ?_)
    conv => whnf
    refine InlG.mk (by kernel_rfl) Try.func44 rfl (Nat.le_of_ble_eq_true rfl) (XT.of tabX_ok ?_)
    conv => whnf
    refine .ct ?_
    conv => whnf
    refine CallG.mk (check_t (by assumption) _ _ _ ho) rfl ?_
    conv => whnf
    refine RegG.par 7 (by kernel_rfl) ?_
    conv => whnf
    refine .cl (nl_sl _ _) clone_slot rfl (sl_len _ _) (sl_one _ _) (by simp only [List.length_map]; omega) ?_
    conv => whnf
    refine .cl (nl_df _) clone_deaf rfl (df_len _) (df_one _) (by simp only [List.length_map]; omega) ?_
    conv => whnf
    refine XT.loop tabX_ok (Y := Nat) [7, 17, 24, 26, 27, 28, 29, 30, 31, 32, 33, 34, 35, 36, 37, 38, 39, 40, 41, 42, 43] (fun k => [(26, .p (.v (.int .i64 ((k : Int)))) (nlv _))]) (fun k => [(6, .cells 25 [.row 8, .p (.v (.int .i64 n.l)) (nlv _), .row 9]), (8, .row 65 4 (mixS n.s k) (nl_mix _ _))]) (fun k => k ≤ n.s.length) (fun k => n.s.length - k) 0 (Nat.zero_le _) ?_ ?_
    · skip
      refine ⟨?_, ?_, ?_⟩
      · skip
        repeat ((conv => whnf); first | exact True.intro | refine ⟨.rfl, ?_⟩ | refine ⟨.any, ?_⟩ | refine ⟨.nil, ?_⟩ | refine ⟨.int (by first | rfl | omega | (simp only [wrs]; omega)), ?_⟩)
      · skip
        repeat (first | exact LeVs.nil | ((conv => whnf); first | exact True.intro | exact .none | exact .row rfl | exact .row (mix_0 _) | exact .row ((mix_0 _).symm) | exact .row (mix_set hy) | exact .row ((mix_set hy).symm) | refine .cells ?_ | refine ⟨_, _, rfl, .rfl, ?_⟩ | refine ⟨_, _, rfl, .any, ?_⟩ | refine ⟨_, _, rfl, .nil, ?_⟩ | refine ⟨_, _, rfl, .int (by first | rfl | omega | (simp only [wrs]; omega)), ?_⟩ | refine ⟨?_, ?_⟩))
      · skip
        repeat (first | exact LeFr.nil | ((conv => whnf); first | exact True.intro | refine ⟨.rfl, ?_⟩ | refine ⟨_, _, rfl, rfl, ?_, ?_⟩))
    · skip
      rintro k hk
      rcases Nat.lt_or_ge k n.s.length with hkl | hkl
      · skip
        obtain ⟨y, hy⟩ : ∃ y, n.s[k]? = some y := ⟨_, List.getElem?_eq_getElem hkl⟩
        have hyn := (ho.s y (List.mem_of_getElem? hy)).n
        conv => whnf
        rw [show (decide ((↑k : Int) < (↑(List.map (slC false) n.s).length : Int))) = true from decide_eq_true (by rw [List.length_map]; omega)]
        conv => whnf
        refine RegG.par 14 (by kernel_rfl) ?_
        conv => whnf
        refine ⟨_, rfl, ?_⟩
        conv => whnf
        refine ⟨by simp [List.length_map, List.length_append, List.length_take, List.length_drop, List.length_cons, List.length_nil, slC, dfC, netX, net0, List.map_nil, mix_len, pkX, slX, sl0, delS]; omega, ?_⟩
        conv => whnf
        refine IdxG.mk (mix_at hy) rfl ?_
        conv => whnf
        refine .cl (nl_by1 _) clone_byte rfl (by_len _) (by_one _) (by simp only [List.length_map]; omega) ?_
        conv => whnf
        refine ⟨_, rfl, ?_⟩
        conv => whnf
        refine ⟨by simp [List.length_map, List.length_append, List.length_take, List.length_drop, List.length_cons, List.length_nil, slC, dfC, netX, net0, List.map_nil, mix_len, pkX, slX, sl0, delS]; omega, ?_⟩
        conv => whnf
        refine IdxG.mk (mix_at hy) rfl ?_
        conv => whnf
        refine ⟨rfl, ?_⟩
        conv => whnf
        refine ⟨(k + 1), (by omega), (by omega), ?_⟩
        refine ⟨?_, ?_, ?_⟩
        · skip
          repeat ((conv => whnf); first | exact True.intro | refine ⟨.rfl, ?_⟩ | refine ⟨.any, ?_⟩ | refine ⟨.nil, ?_⟩ | refine ⟨.int (by first | rfl | omega | (simp only [wrs]; omega)), ?_⟩)
        · skip
          repeat (first | exact LeVs.nil | ((conv => whnf); first | exact True.intro | exact .none | exact .row rfl | exact .row (mix_0 _) | exact .row ((mix_0 _).symm) | exact .row (mix_set hy) | exact .row ((mix_set hy).symm) | refine .cells ?_ | refine ⟨_, _, rfl, .rfl, ?_⟩ | refine ⟨_, _, rfl, .any, ?_⟩ | refine ⟨_, _, rfl, .nil, ?_⟩ | refine ⟨_, _, rfl, .int (by first | rfl | omega | (simp only [wrs]; omega)), ?_⟩ | refine ⟨?_, ?_⟩))
        · skip
          repeat (first | exact LeFr.nil | ((conv => whnf); first | exact True.intro | refine ⟨.rfl, ?_⟩ | refine ⟨_, _, rfl, rfl, ?_, ?_⟩))
      · skip
        generalize nl_mix n.s k = hpm
        revert hpm
        rw [mix_all hkl]
        intro hpm
        conv => whnf
        rw [show (decide ((↑k : Int) < (↑(List.map (slC false) n.s).length : Int))) = false from decide_eq_false (by rw [List.length_map]; omega)]
        conv => whnf
        refine .inl ?_
        conv => whnf
        refine InlG.mk (by kernel_rfl) Try.func73 rfl (Nat.le_of_ble_eq_true rfl) (XT.of tabX_ok ?_)
        conv => whnf
        refine RegG.par 10 (by kernel_rfl) ?_
        conv => whnf
        refine CallG.mk (meant_Y _ _ _ n (right_S hr) hp1 hK) rfl ?_
        conv => whnf
        refine bT (by simp [hg]; done) ?_
        conv => whnf
        refine ⟨.inr rfl, ?_⟩
        conv => whnf
        refine bT (by simp [hg]; done) ?_
        conv => whnf
        refine ⟨.inr rfl, ?_⟩
        conv => whnf
        refine ⟨.inr rfl, ?_⟩
        conv => whnf
        refine FinG.mk none ?_ (by rintro _ ⟨⟩)
        simp only [outs, List.length_map, List.length_append, List.length_take, List.length_drop, List.length_cons, List.length_nil, slC, dfC, netX, net0, List.map_nil, mix_len, pkX, slX, sl0, delS]
  · skip
    rw [show loseN n p = (⟨delS n.s k0, n.l, n.d⟩, 0) from by simp [loseN, hr, hK]] at hR
    subst hR
    conv => whnf
    refine .inl ?_
    conv => whnf
    refine InlG.mk (by kernel_rfl) Try.func55 rfl (Nat.le_of_ble_eq_true rfl) (XT.of tabX_ok ?_)
    conv => whnf
    refine InlG.mk (by kernel_rfl) Try.func44 rfl (Nat.le_of_ble_eq_true rfl) (XT.of tabX_ok ?_)
    conv => whnf
    refine .ct ?_
    conv => whnf
    refine CallG.mk (check_t (by assumption) _ _ _ ho) rfl ?_
    conv => whnf
    refine RegG.par 7 (by kernel_rfl) ?_
    conv => whnf
    refine .cl (nl_sl _ _) clone_slot rfl (sl_len _ _) (sl_one _ _) (by simp only [List.length_map]; omega) ?_
    conv => whnf
    refine .cl (nl_df _) clone_deaf rfl (df_len _) (df_one _) (by simp only [List.length_map]; omega) ?_
    conv => whnf
    refine XT.loop tabX_ok (Y := Nat) [7, 17, 24, 26, 27, 28, 29, 30, 31, 32, 33, 34, 35, 36, 37, 38, 39, 40, 41, 42, 43] (fun k => [(26, .p (.v (.int .i64 ((k : Int)))) (nlv _))]) (fun k => [(6, .cells 25 [.row 8, .p (.v (.int .i64 n.l)) (nlv _), .row 9]), (8, .row 65 4 (mixS n.s k) (nl_mix _ _))]) (fun k => k ≤ n.s.length) (fun k => n.s.length - k) 0 (Nat.zero_le _) ?_ ?_
    · skip
      refine ⟨?_, ?_, ?_⟩
      · skip
        repeat ((conv => whnf); first | exact True.intro | refine ⟨.rfl, ?_⟩ | refine ⟨.any, ?_⟩ | refine ⟨.nil, ?_⟩ | refine ⟨.int (by first | rfl | omega | (simp only [wrs]; omega)), ?_⟩)
      · skip
        repeat (first | exact LeVs.nil | ((conv => whnf); first | exact True.intro | exact .none | exact .row rfl | exact .row (mix_0 _) | exact .row ((mix_0 _).symm) | exact .row (mix_set hy) | exact .row ((mix_set hy).symm) | refine .cells ?_ | refine ⟨_, _, rfl, .rfl, ?_⟩ | refine ⟨_, _, rfl, .any, ?_⟩ | refine ⟨_, _, rfl, .nil, ?_⟩ | refine ⟨_, _, rfl, .int (by first | rfl | omega | (simp only [wrs]; omega)), ?_⟩ | refine ⟨?_, ?_⟩))
      · skip
        repeat (first | exact LeFr.nil | ((conv => whnf); first | exact True.intro | refine ⟨.rfl, ?_⟩ | refine ⟨_, _, rfl, rfl, ?_, ?_⟩))
    · skip
      rintro k hk
      rcases Nat.lt_or_ge k n.s.length with hkl | hkl
      · skip
        obtain ⟨y, hy⟩ : ∃ y, n.s[k]? = some y := ⟨_, List.getElem?_eq_getElem hkl⟩
        have hyn := (ho.s y (List.mem_of_getElem? hy)).n
        conv => whnf
        rw [show (decide ((↑k : Int) < (↑(List.map (slC false) n.s).length : Int))) = true from decide_eq_true (by rw [List.length_map]; omega)]
        conv => whnf
        refine RegG.par 14 (by kernel_rfl) ?_
        conv => whnf
        refine ⟨_, rfl, ?_⟩
        conv => whnf
        refine ⟨by simp [List.length_map, List.length_append, List.length_take, List.length_drop, List.length_cons, List.length_nil, slC, dfC, netX, net0, List.map_nil, mix_len, pkX, slX, sl0, delS]; omega, ?_⟩
        conv => whnf
        refine IdxG.mk (mix_at hy) rfl ?_
        conv => whnf
        refine .cl (nl_by1 _) clone_byte rfl (by_len _) (by_one _) (by simp only [List.length_map]; omega) ?_
        conv => whnf
        refine ⟨_, rfl, ?_⟩
        conv => whnf
        refine ⟨by simp [List.length_map, List.length_append, List.length_take, List.length_drop, List.length_cons, List.length_nil, slC, dfC, netX, net0, List.map_nil, mix_len, pkX, slX, sl0, delS]; omega, ?_⟩
        conv => whnf
        refine IdxG.mk (mix_at hy) rfl ?_
        conv => whnf
        refine ⟨rfl, ?_⟩
        conv => whnf
        refine ⟨(k + 1), (by omega), (by omega), ?_⟩
        refine ⟨?_, ?_, ?_⟩
        · skip
          repeat ((conv => whnf); first | exact True.intro | refine ⟨.rfl, ?_⟩ | refine ⟨.any, ?_⟩ | refine ⟨.nil, ?_⟩ | refine ⟨.int (by first | rfl | omega | (simp only [wrs]; omega)), ?_⟩)
        · skip
          repeat (first | exact LeVs.nil | ((conv => whnf); first | exact True.intro | exact .none | exact .row rfl | exact .row (mix_0 _) | exact .row ((mix_0 _).symm) | exact .row (mix_set hy) | exact .row ((mix_set hy).symm) | refine .cells ?_ | refine ⟨_, _, rfl, .rfl, ?_⟩ | refine ⟨_, _, rfl, .any, ?_⟩ | refine ⟨_, _, rfl, .nil, ?_⟩ | refine ⟨_, _, rfl, .int (by first | rfl | omega | (simp only [wrs]; omega)), ?_⟩ | refine ⟨?_, ?_⟩))
        · skip
          repeat (first | exact LeFr.nil | ((conv => whnf); first | exact True.intro | refine ⟨.rfl, ?_⟩ | refine ⟨_, _, rfl, rfl, ?_, ?_⟩))
      · skip
        generalize nl_mix n.s k = hpm
        revert hpm
        rw [mix_all hkl]
        intro hpm
        conv => whnf
        rw [show (decide ((↑k : Int) < (↑(List.map (slC false) n.s).length : Int))) = false from decide_eq_false (by rw [List.length_map]; omega)]
        conv => whnf
        refine .inl ?_
        conv => whnf
        refine InlG.mk (by kernel_rfl) Try.func73 rfl (Nat.le_of_ble_eq_true rfl) (XT.of tabX_ok ?_)
        conv => whnf
        refine RegG.par 10 (by kernel_rfl) ?_
        conv => whnf
        refine CallG.mk (meant_Y _ _ _ n (right_S hr) hp1 hK) rfl ?_
        conv => whnf
        refine .inl ?_
        conv => whnf
        refine InlG.mk (by kernel_rfl) Try.func57 rfl (Nat.le_of_ble_eq_true rfl) (XT.of tabX_ok ?_)
        conv => whnf
        refine .wr (WCall.del delC_slot (by kernel_rfl) (by have h8 := slot_lt hx; rw [IntKind.wrap_i64]; omega) rfl (by rw [List.length_map]; exact slot_lt hx) (by rw [List.length_map]; omega) (sl_one _ _) (els' := (delS n.s k0).map (slC true)) (by simp [delS, List.map_append, List.map_take, List.map_drop]) (nl_sl _ _) ?_)
        conv => whnf
        refine ⟨.inr rfl, ?_⟩
        conv => whnf
        refine ⟨.inr rfl, ?_⟩
        conv => whnf
        refine ⟨.inr rfl, ?_⟩
        conv => whnf
        refine ⟨.inr rfl, ?_⟩
        conv => whnf
        refine FinG.mk none ?_ (by rintro _ ⟨⟩)
        simp only [outs, List.length_map, List.length_append, List.length_take, List.length_drop, List.length_cons, List.length_nil, slC, dfC, netX, net0, List.map_nil, mix_len, pkX, slX, sl0, delS]
        exact ⟨⟨⟨_, _, rfl⟩, fr_sl _, by simp⟩, ⟨_, _, rfl⟩, fr_df _, by simp⟩
set_option maxRecDepth 20000 in
theorem meantX_X (b c e : Bool) (n : NetA) (p : Int) (ho : n.Ok) (hp1 : p < 9223372036854775808) (R : Sl × Int) (hR : R = meantN n p) : XMeets Try.prog 31 [netT b c e n, .v (.int .i64 p)] (.tu [slX R.1, .p (.v (.int .i64 (R.2))) (nlv _)]) := by
  refine XMeets.of_X tabX_ok (avs := [.ag [.p (.sl false (n.s.map (slC false))) (nl_sl _ _).sl, .p (.v (.int .i64 n.l)) (nlv _), .p (.sl false (n.d.map dfC)) (nl_df _).sl], .p (.v (.int .i64 p)) (nlv _)]) [(0, .ag [.p (.sl false (n.s.map (slC false))) (nl_sl _ _).sl, .p (.v (.int .i64 n.l)) (nlv _), .p (.sl false (n.d.map dfC)) (nl_df _).sl]), (1, .p (.v (.int .i64 p)) (nlv _))] (by kernel_rfl) Try.func31 rfl (by simp [PuL, Pu, netT, slC, dfC, pu_by1, pu_sl, pu_df]) (by simp only [untagL, untag, netT, untag_by1, untag_sl, untag_df]; rfl) rfl rfl ?_
  intro B w0
  have hsn := ho.sn
  have hdn := ho.dn
  rcases net_cases n p with hr | ⟨hr, g, hg, hK⟩ | ⟨hr, k0, x, hx, hK⟩
  · skip
    rw [show meantN n p = (sl0, 330) from by simp [meantN, hr]] at hR
    subst hR
    conv => whnf
    refine InlG.mk (by kernel_rfl) Try.func55 rfl (Nat.le_of_ble_eq_true rfl) (XT.of tabX_ok ?_)
    conv => whnf
    refine InlG.mk (by kernel_rfl) Try.func44 rfl (Nat.le_of_ble_eq_true rfl) (XT.of tabX_ok ?_)
    conv => whnf
    refine .ct ?_
    conv => whnf
    refine CallG.mk (check_f (by assumption) _ _ _ ho) rfl ?_
    conv => whnf
    refine ⟨.inr rfl, ?_⟩
    conv => whnf
    refine ⟨.inr rfl, ?_⟩
    conv => whnf
    refine FinG.mk none ?_ (by rintro _ ⟨⟩)
    simp only [outs, List.length_map, List.length_append, List.length_take, List.length_drop, List.length_cons, List.length_nil, slC, dfC, netX, net0, List.map_nil, mix_len, pkX, slX, sl0, delS]
  · skip
    rw [show meantN n p = (sl0, g) from by simp [meantN, hr, hK, hg]] at hR
    subst hR
    conv => whnf
    refine InlG.mk (by kernel_rfl) Try.func55 rfl (Nat.le_of_ble_eq_true rfl) (XT.of tabX_ok ?_)
    conv => whnf
    refine InlG.mk (by kernel_rfl) Try.func44 rfl (Nat.le_of_ble_eq_true rfl) (XT.of tabX_ok ?_)
    conv => whnf
    refine .ct ?_
    conv => whnf
    refine CallG.mk (check_t (by assumption) _ _ _ ho) rfl ?_
    conv => whnf
    refine RegG.par 7 (by kernel_rfl) ?_
    conv => whnf
    refine .cl (nl_sl _ _) clone_slot rfl (sl_len _ _) (sl_one _ _) (by simp only [List.length_map]; omega) ?_
    conv => whnf
    refine .cl (nl_df _) clone_deaf rfl (df_len _) (df_one _) (by simp only [List.length_map]; omega) ?_
    conv => whnf
    refine XT.loop tabX_ok (Y := Nat) [7, 17, 24, 26, 27, 28, 29, 30, 31, 32, 33, 34, 35, 36, 37, 38, 39, 40, 41, 42, 43] (fun k => [(26, .p (.v (.int .i64 ((k : Int)))) (nlv _))]) (fun k => [(7, .cells 25 [.row 9, .p (.v (.int .i64 n.l)) (nlv _), .row 10]), (9, .row 65 4 (mixS n.s k) (nl_mix _ _))]) (fun k => k ≤ n.s.length) (fun k => n.s.length - k) 0 (Nat.zero_le _) ?_ ?_
    · skip
      refine ⟨?_, ?_, ?_⟩
      · skip
        repeat ((conv => whnf); first | exact True.intro | refine ⟨.rfl, ?_⟩ | refine ⟨.any, ?_⟩ | refine ⟨.nil, ?_⟩ | refine ⟨.int (by first | rfl | omega | (simp only [wrs]; omega)), ?_⟩)
      · skip
        repeat (first | exact LeVs.nil | ((conv => whnf); first | exact True.intro | exact .none | exact .row rfl | exact .row (mix_0 _) | exact .row ((mix_0 _).symm) | exact .row (mix_set hy) | exact .row ((mix_set hy).symm) | refine .cells ?_ | refine ⟨_, _, rfl, .rfl, ?_⟩ | refine ⟨_, _, rfl, .any, ?_⟩ | refine ⟨_, _, rfl, .nil, ?_⟩ | refine ⟨_, _, rfl, .int (by first | rfl | omega | (simp only [wrs]; omega)), ?_⟩ | refine ⟨?_, ?_⟩))
      · skip
        repeat (first | exact LeFr.nil | ((conv => whnf); first | exact True.intro | refine ⟨.rfl, ?_⟩ | refine ⟨_, _, rfl, rfl, ?_, ?_⟩))
    · skip
      rintro k hk
      rcases Nat.lt_or_ge k n.s.length with hkl | hkl
      · skip
        obtain ⟨y, hy⟩ : ∃ y, n.s[k]? = some y := ⟨_, List.getElem?_eq_getElem hkl⟩
        have hyn := (ho.s y (List.mem_of_getElem? hy)).n
        conv => whnf
        rw [show (decide ((↑k : Int) < (↑(List.map (slC false) n.s).length : Int))) = true from decide_eq_true (by rw [List.length_map]; omega)]
        conv => whnf
        refine RegG.par 14 (by kernel_rfl) ?_
        conv => whnf
        refine ⟨_, rfl, ?_⟩
        conv => whnf
        refine ⟨by simp [List.length_map, List.length_append, List.length_take, List.length_drop, List.length_cons, List.length_nil, slC, dfC, netX, net0, List.map_nil, mix_len, pkX, slX, sl0, delS]; omega, ?_⟩
        conv => whnf
        refine IdxG.mk (mix_at hy) rfl ?_
        conv => whnf
        refine .cl (nl_by1 _) clone_byte rfl (by_len _) (by_one _) (by simp only [List.length_map]; omega) ?_
        conv => whnf
        refine ⟨_, rfl, ?_⟩
        conv => whnf
        refine ⟨by simp [List.length_map, List.length_append, List.length_take, List.length_drop, List.length_cons, List.length_nil, slC, dfC, netX, net0, List.map_nil, mix_len, pkX, slX, sl0, delS]; omega, ?_⟩
        conv => whnf
        refine IdxG.mk (mix_at hy) rfl ?_
        conv => whnf
        refine ⟨rfl, ?_⟩
        conv => whnf
        refine ⟨(k + 1), (by omega), (by omega), ?_⟩
        refine ⟨?_, ?_, ?_⟩
        · skip
          repeat ((conv => whnf); first | exact True.intro | refine ⟨.rfl, ?_⟩ | refine ⟨.any, ?_⟩ | refine ⟨.nil, ?_⟩ | refine ⟨.int (by first | rfl | omega | (simp only [wrs]; omega)), ?_⟩)
        · skip
          repeat (first | exact LeVs.nil | ((conv => whnf); first | exact True.intro | exact .none | exact .row rfl | exact .row (mix_0 _) | exact .row ((mix_0 _).symm) | exact .row (mix_set hy) | exact .row ((mix_set hy).symm) | refine .cells ?_ | refine ⟨_, _, rfl, .rfl, ?_⟩ | refine ⟨_, _, rfl, .any, ?_⟩ | refine ⟨_, _, rfl, .nil, ?_⟩ | refine ⟨_, _, rfl, .int (by first | rfl | omega | (simp only [wrs]; omega)), ?_⟩ | refine ⟨?_, ?_⟩))
        · skip
          repeat (first | exact LeFr.nil | ((conv => whnf); first | exact True.intro | refine ⟨.rfl, ?_⟩ | refine ⟨_, _, rfl, rfl, ?_, ?_⟩))
      · skip
        generalize nl_mix n.s k = hpm
        revert hpm
        rw [mix_all hkl]
        intro hpm
        conv => whnf
        rw [show (decide ((↑k : Int) < (↑(List.map (slC false) n.s).length : Int))) = false from decide_eq_false (by rw [List.length_map]; omega)]
        conv => whnf
        refine InlG.mk (by kernel_rfl) Try.func73 rfl (Nat.le_of_ble_eq_true rfl) (XT.of tabX_ok ?_)
        conv => whnf
        refine RegG.par 10 (by kernel_rfl) ?_
        conv => whnf
        refine CallG.mk (meant_Y _ _ _ n (right_S hr) hp1 hK) rfl ?_
        conv => whnf
        refine bT (by simp [hg]; done) ?_
        conv => whnf
        refine ⟨.inr rfl, ?_⟩
        conv => whnf
        refine bT (by simp [hg]; done) ?_
        conv => whnf
        refine ⟨.inr rfl, ?_⟩
        conv => whnf
        refine ⟨.inr rfl, ?_⟩
        conv => whnf
        refine FinG.mk none ?_ (by rintro _ ⟨⟩)
        simp only [outs, List.length_map, List.length_append, List.length_take, List.length_drop, List.length_cons, List.length_nil, slC, dfC, netX, net0, List.map_nil, mix_len, pkX, slX, sl0, delS]
  · skip
    rw [show meantN n p = (x, 0) from by simp [meantN, hr, hK, slotAt, hx]] at hR
    subst hR
    conv => whnf
    refine InlG.mk (by kernel_rfl) Try.func55 rfl (Nat.le_of_ble_eq_true rfl) (XT.of tabX_ok ?_)
    conv => whnf
    refine InlG.mk (by kernel_rfl) Try.func44 rfl (Nat.le_of_ble_eq_true rfl) (XT.of tabX_ok ?_)
    conv => whnf
    refine .ct ?_
    conv => whnf
    refine CallG.mk (check_t (by assumption) _ _ _ ho) rfl ?_
    conv => whnf
    refine RegG.par 7 (by kernel_rfl) ?_
    conv => whnf
    refine .cl (nl_sl _ _) clone_slot rfl (sl_len _ _) (sl_one _ _) (by simp only [List.length_map]; omega) ?_
    conv => whnf
    refine .cl (nl_df _) clone_deaf rfl (df_len _) (df_one _) (by simp only [List.length_map]; omega) ?_
    conv => whnf
    refine XT.loop tabX_ok (Y := Nat) [7, 17, 24, 26, 27, 28, 29, 30, 31, 32, 33, 34, 35, 36, 37, 38, 39, 40, 41, 42, 43] (fun k => [(26, .p (.v (.int .i64 ((k : Int)))) (nlv _))]) (fun k => [(7, .cells 25 [.row 9, .p (.v (.int .i64 n.l)) (nlv _), .row 10]), (9, .row 65 4 (mixS n.s k) (nl_mix _ _))]) (fun k => k ≤ n.s.length) (fun k => n.s.length - k) 0 (Nat.zero_le _) ?_ ?_
    · skip
      refine ⟨?_, ?_, ?_⟩
      · skip
        repeat ((conv => whnf); first | exact True.intro | refine ⟨.rfl, ?_⟩ | refine ⟨.any, ?_⟩ | refine ⟨.nil, ?_⟩ | refine ⟨.int (by first | rfl | omega | (simp only [wrs]; omega)), ?_⟩)
      · skip
        repeat (first | exact LeVs.nil | ((conv => whnf); first | exact True.intro | exact .none | exact .row rfl | exact .row (mix_0 _) | exact .row ((mix_0 _).symm) | exact .row (mix_set hy) | exact .row ((mix_set hy).symm) | refine .cells ?_ | refine ⟨_, _, rfl, .rfl, ?_⟩ | refine ⟨_, _, rfl, .any, ?_⟩ | refine ⟨_, _, rfl, .nil, ?_⟩ | refine ⟨_, _, rfl, .int (by first | rfl | omega | (simp only [wrs]; omega)), ?_⟩ | refine ⟨?_, ?_⟩))
      · skip
        repeat (first | exact LeFr.nil | ((conv => whnf); first | exact True.intro | refine ⟨.rfl, ?_⟩ | refine ⟨_, _, rfl, rfl, ?_, ?_⟩))
    · skip
      rintro k hk
      rcases Nat.lt_or_ge k n.s.length with hkl | hkl
      · skip
        obtain ⟨y, hy⟩ : ∃ y, n.s[k]? = some y := ⟨_, List.getElem?_eq_getElem hkl⟩
        have hyn := (ho.s y (List.mem_of_getElem? hy)).n
        conv => whnf
        rw [show (decide ((↑k : Int) < (↑(List.map (slC false) n.s).length : Int))) = true from decide_eq_true (by rw [List.length_map]; omega)]
        conv => whnf
        refine RegG.par 14 (by kernel_rfl) ?_
        conv => whnf
        refine ⟨_, rfl, ?_⟩
        conv => whnf
        refine ⟨by simp [List.length_map, List.length_append, List.length_take, List.length_drop, List.length_cons, List.length_nil, slC, dfC, netX, net0, List.map_nil, mix_len, pkX, slX, sl0, delS]; omega, ?_⟩
        conv => whnf
        refine IdxG.mk (mix_at hy) rfl ?_
        conv => whnf
        refine .cl (nl_by1 _) clone_byte rfl (by_len _) (by_one _) (by simp only [List.length_map]; omega) ?_
        conv => whnf
        refine ⟨_, rfl, ?_⟩
        conv => whnf
        refine ⟨by simp [List.length_map, List.length_append, List.length_take, List.length_drop, List.length_cons, List.length_nil, slC, dfC, netX, net0, List.map_nil, mix_len, pkX, slX, sl0, delS]; omega, ?_⟩
        conv => whnf
        refine IdxG.mk (mix_at hy) rfl ?_
        conv => whnf
        refine ⟨rfl, ?_⟩
        conv => whnf
        refine ⟨(k + 1), (by omega), (by omega), ?_⟩
        refine ⟨?_, ?_, ?_⟩
        · skip
          repeat ((conv => whnf); first | exact True.intro | refine ⟨.rfl, ?_⟩ | refine ⟨.any, ?_⟩ | refine ⟨.nil, ?_⟩ | refine ⟨.int (by first | rfl | omega | (simp only [wrs]; omega)), ?_⟩)
        · skip
          repeat (first | exact LeVs.nil | ((conv => whnf); first | exact True.intro | exact .none | exact .row rfl | exact .row (mix_0 _) | exact .row ((mix_0 _).symm) | exact .row (mix_set hy) | exact .row ((mix_set hy).symm) | refine .cells ?_ | refine ⟨_, _, rfl, .rfl, ?_⟩ | refine ⟨_, _, rfl, .any, ?_⟩ | refine ⟨_, _, rfl, .nil, ?_⟩ | refine ⟨_, _, rfl, .int (by first | rfl | omega | (simp only [wrs]; omega)), ?_⟩ | refine ⟨?_, ?_⟩))
        · skip
          repeat (first | exact LeFr.nil | ((conv => whnf); first | exact True.intro | refine ⟨.rfl, ?_⟩ | refine ⟨_, _, rfl, rfl, ?_, ?_⟩))
      · skip
        generalize nl_mix n.s k = hpm
        revert hpm
        rw [mix_all hkl]
        intro hpm
        conv => whnf
        rw [show (decide ((↑k : Int) < (↑(List.map (slC false) n.s).length : Int))) = false from decide_eq_false (by rw [List.length_map]; omega)]
        conv => whnf
        refine InlG.mk (by kernel_rfl) Try.func73 rfl (Nat.le_of_ble_eq_true rfl) (XT.of tabX_ok ?_)
        conv => whnf
        refine RegG.par 10 (by kernel_rfl) ?_
        conv => whnf
        refine CallG.mk (meant_Y _ _ _ n (right_S hr) hp1 hK) rfl ?_
        conv => whnf
        refine .inl ?_
        conv => whnf
        refine InlG.mk (by kernel_rfl) Try.func59 rfl (Nat.le_of_ble_eq_true rfl) (XT.of tabX_ok ?_)
        conv => whnf
        refine ⟨_, rfl, ?_⟩
        conv => whnf
        refine ⟨by rw [List.length_map]; exact slot_lt hx, ?_⟩
        conv => whnf
        refine IdxG.mk (slot_at hx) rfl ?_
        conv => whnf
        refine ⟨.inr rfl, ?_⟩
        conv => whnf
        refine ⟨.inr rfl, ?_⟩
        conv => whnf
        refine ⟨.inr rfl, ?_⟩
        conv => whnf
        refine ⟨.inr rfl, ?_⟩
        conv => whnf
        refine FinG.mk none ?_ (by rintro _ ⟨⟩)
        simp only [outs, List.length_map, List.length_append, List.length_take, List.length_drop, List.length_cons, List.length_nil, slC, dfC, netX, net0, List.map_nil, mix_len, pkX, slX, sl0, delS]
        simp [fr_by1]
set_option maxHeartbeats 4000000 in
set_option maxRecDepth 20000 in
theorem deliver_X (b c e : Bool) (n : NetA) (p : Int) (ho : n.Ok) (hp1 : p < 9223372036854775808) (R : NetA × Sl × Int) (hR : R = delivN n p) : XMeets Try.prog 27 [netT b c e n, .v (.int .i64 p)] (.tu [netX R.1, pkX R.2.1, .p (.v (.int .i64 (R.2.2))) (nlv _)]) := by
  refine XMeets.of_X tabX_ok (avs := [.ag [.p (.sl false (n.s.map (slC false))) (nl_sl _ _).sl, .p (.v (.int .i64 n.l)) (nlv _), .p (.sl false (n.d.map dfC)) (nl_df _).sl], .p (.v (.int .i64 p)) (nlv _)]) [(0, .ag [.p (.sl false (n.s.map (slC false))) (nl_sl _ _).sl, .p (.v (.int .i64 n.l)) (nlv _), .p (.sl false (n.d.map dfC)) (nl_df _).sl]), (1, .p (.v (.int .i64 p)) (nlv _))] (by kernel_rfl) Try.func27 rfl (by simp [PuL, Pu, netT, slC, dfC, pu_by1, pu_sl, pu_df]) (by simp only [untagL, untag, netT, untag_by1, untag_sl, untag_df]; rfl) rfl rfl ?_
  intro B w0
  have hsn := ho.sn
  have hdn := ho.dn
  rcases net_cases n p with hr | ⟨hr, g, hg, hK⟩ | ⟨hr, k0, x, hx, hK⟩
  rotate_left 2
  by_cases hm : (x.f, x.t) ∈ n.d
  rotate_left 2
  · skip
    rw [show delivN n p = (net0, sl0, 330) from by simp [delivN, hr]] at hR
    subst hR
    conv => whnf
    refine InlG.mk (by kernel_rfl) Try.func55 rfl (Nat.le_of_ble_eq_true rfl) (XT.of tabX_ok ?_)
    conv => whnf
    refine InlG.mk (by kernel_rfl) Try.func44 rfl (Nat.le_of_ble_eq_true rfl) (XT.of tabX_ok ?_)
    conv => whnf
    refine .ct ?_
    conv => whnf
    refine CallG.mk (check_f (by assumption) _ _ _ ho) rfl ?_
    conv => whnf
    refine ⟨.inr rfl, ?_⟩
    conv => whnf
    refine ⟨.inr rfl, ?_⟩
    conv => whnf
    refine RegG.late 6 [(1, 0, 3), (2, 0, 3)] (by kernel_rfl) ?_
    conv => whnf
    refine ⟨rfl, ?_⟩
    conv => whnf
    refine ⟨rfl, ?_⟩
    conv => whnf
    refine FinG.mk none ?_ (by rintro _ ⟨⟩)
    simp only [outs, List.length_map, List.length_append, List.length_take, List.length_drop, List.length_cons, List.length_nil, slC, dfC, netX, net0, List.map_nil, mix_len, pkX, slX, sl0, delS]
  · skip
    rw [show delivN n p = (net0, sl0, g) from by simp [delivN, hr, hK, hg]] at hR
    subst hR
    conv => whnf
    refine InlG.mk (by kernel_rfl) Try.func55 rfl (Nat.le_of_ble_eq_true rfl) (XT.of tabX_ok ?_)
    conv => whnf
    refine InlG.mk (by kernel_rfl) Try.func44 rfl (Nat.le_of_ble_eq_true rfl) (XT.of tabX_ok ?_)
    conv => whnf
    refine .ct ?_
    conv => whnf
    refine CallG.mk (check_t (by assumption) _ _ _ ho) rfl ?_
    conv => whnf
    refine RegG.par 7 (by kernel_rfl) ?_
    conv => whnf
    refine .cl (nl_sl _ _) clone_slot rfl (sl_len _ _) (sl_one _ _) (by simp only [List.length_map]; omega) ?_
    conv => whnf
    refine .cl (nl_df _) clone_deaf rfl (df_len _) (df_one _) (by simp only [List.length_map]; omega) ?_
    conv => whnf
    refine XT.loop tabX_ok (Y := Nat) [7, 17, 24, 26, 27, 28, 29, 30, 31, 32, 33, 34, 35, 36, 37, 38, 39, 40, 41, 42, 43] (fun k => [(26, .p (.v (.int .i64 ((k : Int)))) (nlv _))]) (fun k => [(8, .cells 25 [.row 10, .p (.v (.int .i64 n.l)) (nlv _), .row 11]), (10, .row 65 4 (mixS n.s k) (nl_mix _ _))]) (fun k => k ≤ n.s.length) (fun k => n.s.length - k) 0 (Nat.zero_le _) ?_ ?_
    · skip
      refine ⟨?_, ?_, ?_⟩
      · skip
        repeat ((conv => whnf); first | exact True.intro | refine ⟨.rfl, ?_⟩ | refine ⟨.any, ?_⟩ | refine ⟨.nil, ?_⟩ | refine ⟨.int (by first | rfl | omega | (simp only [wrs]; omega)), ?_⟩)
      · skip
        repeat (first | exact LeVs.nil | ((conv => whnf); first | exact True.intro | exact .none | exact .row rfl | exact .row (mix_0 _) | exact .row ((mix_0 _).symm) | exact .row (mix_set hy) | exact .row ((mix_set hy).symm) | refine .cells ?_ | refine ⟨_, _, rfl, .rfl, ?_⟩ | refine ⟨_, _, rfl, .any, ?_⟩ | refine ⟨_, _, rfl, .nil, ?_⟩ | refine ⟨_, _, rfl, .int (by first | rfl | omega | (simp only [wrs]; omega)), ?_⟩ | refine ⟨?_, ?_⟩))
      · skip
        repeat (first | exact LeFr.nil | ((conv => whnf); first | exact True.intro | refine ⟨.rfl, ?_⟩ | refine ⟨_, _, rfl, rfl, ?_, ?_⟩))
    · skip
      rintro k hk
      rcases Nat.lt_or_ge k n.s.length with hkl | hkl
      · skip
        obtain ⟨y, hy⟩ : ∃ y, n.s[k]? = some y := ⟨_, List.getElem?_eq_getElem hkl⟩
        have hyn := (ho.s y (List.mem_of_getElem? hy)).n
        conv => whnf
        rw [show (decide ((↑k : Int) < (↑(List.map (slC false) n.s).length : Int))) = true from decide_eq_true (by rw [List.length_map]; omega)]
        conv => whnf
        refine RegG.par 14 (by kernel_rfl) ?_
        conv => whnf
        refine ⟨_, rfl, ?_⟩
        conv => whnf
        refine ⟨by simp [List.length_map, List.length_append, List.length_take, List.length_drop, List.length_cons, List.length_nil, slC, dfC, netX, net0, List.map_nil, mix_len, pkX, slX, sl0, delS]; omega, ?_⟩
        conv => whnf
        refine IdxG.mk (mix_at hy) rfl ?_
        conv => whnf
        refine .cl (nl_by1 _) clone_byte rfl (by_len _) (by_one _) (by simp only [List.length_map]; omega) ?_
        conv => whnf
        refine ⟨_, rfl, ?_⟩
        conv => whnf
        refine ⟨by simp [List.length_map, List.length_append, List.length_take, List.length_drop, List.length_cons, List.length_nil, slC, dfC, netX, net0, List.map_nil, mix_len, pkX, slX, sl0, delS]; omega, ?_⟩
        conv => whnf
        refine IdxG.mk (mix_at hy) rfl ?_
        conv => whnf
        refine ⟨rfl, ?_⟩
        conv => whnf
        refine ⟨(k + 1), (by omega), (by omega), ?_⟩
        refine ⟨?_, ?_, ?_⟩
        · skip
          repeat ((conv => whnf); first | exact True.intro | refine ⟨.rfl, ?_⟩ | refine ⟨.any, ?_⟩ | refine ⟨.nil, ?_⟩ | refine ⟨.int (by first | rfl | omega | (simp only [wrs]; omega)), ?_⟩)
        · skip
          repeat (first | exact LeVs.nil | ((conv => whnf); first | exact True.intro | exact .none | exact .row rfl | exact .row (mix_0 _) | exact .row ((mix_0 _).symm) | exact .row (mix_set hy) | exact .row ((mix_set hy).symm) | refine .cells ?_ | refine ⟨_, _, rfl, .rfl, ?_⟩ | refine ⟨_, _, rfl, .any, ?_⟩ | refine ⟨_, _, rfl, .nil, ?_⟩ | refine ⟨_, _, rfl, .int (by first | rfl | omega | (simp only [wrs]; omega)), ?_⟩ | refine ⟨?_, ?_⟩))
        · skip
          repeat (first | exact LeFr.nil | ((conv => whnf); first | exact True.intro | refine ⟨.rfl, ?_⟩ | refine ⟨_, _, rfl, rfl, ?_, ?_⟩))
      · skip
        generalize nl_mix n.s k = hpm
        revert hpm
        rw [mix_all hkl]
        intro hpm
        conv => whnf
        rw [show (decide ((↑k : Int) < (↑(List.map (slC false) n.s).length : Int))) = false from decide_eq_false (by rw [List.length_map]; omega)]
        conv => whnf
        refine InlG.mk (by kernel_rfl) Try.func73 rfl (Nat.le_of_ble_eq_true rfl) (XT.of tabX_ok ?_)
        conv => whnf
        refine RegG.par 10 (by kernel_rfl) ?_
        conv => whnf
        refine CallG.mk (meant_Y _ _ _ n (right_S hr) hp1 hK) rfl ?_
        conv => whnf
        refine bT (by simp [hg]; done) ?_
        conv => whnf
        refine ⟨.inr rfl, ?_⟩
        conv => whnf
        refine bT (by simp [hg]; done) ?_
        conv => whnf
        refine ⟨.inr rfl, ?_⟩
        conv => whnf
        refine ⟨.inr rfl, ?_⟩
        conv => whnf
        refine RegG.late 6 [(1, 0, 3), (2, 0, 3)] (by kernel_rfl) ?_
        conv => whnf
        refine ⟨rfl, ?_⟩
        conv => whnf
        refine ⟨rfl, ?_⟩
        conv => whnf
        refine FinG.mk none ?_ (by rintro _ ⟨⟩)
        simp only [outs, List.length_map, List.length_append, List.length_take, List.length_drop, List.length_cons, List.length_nil, slC, dfC, netX, net0, List.map_nil, mix_len, pkX, slX, sl0, delS]
  · skip
    rw [show delivN n p = (net0, sl0, 331) from by simp [delivN, hr, hK, slotAt, hx, hm]] at hR
    subst hR
    conv => whnf
    refine InlG.mk (by kernel_rfl) Try.func55 rfl (Nat.le_of_ble_eq_true rfl) (XT.of tabX_ok ?_)
    conv => whnf
    refine InlG.mk (by kernel_rfl) Try.func44 rfl (Nat.le_of_ble_eq_true rfl) (XT.of tabX_ok ?_)
    conv => whnf
    refine .ct ?_
    conv => whnf
    refine CallG.mk (check_t (by assumption) _ _ _ ho) rfl ?_
    conv => whnf
    refine RegG.par 7 (by kernel_rfl) ?_
    conv => whnf
    refine .cl (nl_sl _ _) clone_slot rfl (sl_len _ _) (sl_one _ _) (by simp only [List.length_map]; omega) ?_
    conv => whnf
    refine .cl (nl_df _) clone_deaf rfl (df_len _) (df_one _) (by simp only [List.length_map]; omega) ?_
    conv => whnf
    refine XT.loop tabX_ok (Y := Nat) [7, 17, 24, 26, 27, 28, 29, 30, 31, 32, 33, 34, 35, 36, 37, 38, 39, 40, 41, 42, 43] (fun k => [(26, .p (.v (.int .i64 ((k : Int)))) (nlv _))]) (fun k => [(8, .cells 25 [.row 10, .p (.v (.int .i64 n.l)) (nlv _), .row 11]), (10, .row 65 4 (mixS n.s k) (nl_mix _ _))]) (fun k => k ≤ n.s.length) (fun k => n.s.length - k) 0 (Nat.zero_le _) ?_ ?_
    · skip
      refine ⟨?_, ?_, ?_⟩
      · skip
        repeat ((conv => whnf); first | exact True.intro | refine ⟨.rfl, ?_⟩ | refine ⟨.any, ?_⟩ | refine ⟨.nil, ?_⟩ | refine ⟨.int (by first | rfl | omega | (simp only [wrs]; omega)), ?_⟩)
      · skip
        repeat (first | exact LeVs.nil | ((conv => whnf); first | exact True.intro | exact .none | exact .row rfl | exact .row (mix_0 _) | exact .row ((mix_0 _).symm) | exact .row (mix_set hy) | exact .row ((mix_set hy).symm) | refine .cells ?_ | refine ⟨_, _, rfl, .rfl, ?_⟩ | refine ⟨_, _, rfl, .any, ?_⟩ | refine ⟨_, _, rfl, .nil, ?_⟩ | refine ⟨_, _, rfl, .int (by first | rfl | omega | (simp only [wrs]; omega)), ?_⟩ | refine ⟨?_, ?_⟩))
      · skip
        repeat (first | exact LeFr.nil | ((conv => whnf); first | exact True.intro | refine ⟨.rfl, ?_⟩ | refine ⟨_, _, rfl, rfl, ?_, ?_⟩))
    · skip
      rintro k hk
      rcases Nat.lt_or_ge k n.s.length with hkl | hkl
      · skip
        obtain ⟨y, hy⟩ : ∃ y, n.s[k]? = some y := ⟨_, List.getElem?_eq_getElem hkl⟩
        have hyn := (ho.s y (List.mem_of_getElem? hy)).n
        conv => whnf
        rw [show (decide ((↑k : Int) < (↑(List.map (slC false) n.s).length : Int))) = true from decide_eq_true (by rw [List.length_map]; omega)]
        conv => whnf
        refine RegG.par 14 (by kernel_rfl) ?_
        conv => whnf
        refine ⟨_, rfl, ?_⟩
        conv => whnf
        refine ⟨by simp [List.length_map, List.length_append, List.length_take, List.length_drop, List.length_cons, List.length_nil, slC, dfC, netX, net0, List.map_nil, mix_len, pkX, slX, sl0, delS]; omega, ?_⟩
        conv => whnf
        refine IdxG.mk (mix_at hy) rfl ?_
        conv => whnf
        refine .cl (nl_by1 _) clone_byte rfl (by_len _) (by_one _) (by simp only [List.length_map]; omega) ?_
        conv => whnf
        refine ⟨_, rfl, ?_⟩
        conv => whnf
        refine ⟨by simp [List.length_map, List.length_append, List.length_take, List.length_drop, List.length_cons, List.length_nil, slC, dfC, netX, net0, List.map_nil, mix_len, pkX, slX, sl0, delS]; omega, ?_⟩
        conv => whnf
        refine IdxG.mk (mix_at hy) rfl ?_
        conv => whnf
        refine ⟨rfl, ?_⟩
        conv => whnf
        refine ⟨(k + 1), (by omega), (by omega), ?_⟩
        refine ⟨?_, ?_, ?_⟩
        · skip
          repeat ((conv => whnf); first | exact True.intro | refine ⟨.rfl, ?_⟩ | refine ⟨.any, ?_⟩ | refine ⟨.nil, ?_⟩ | refine ⟨.int (by first | rfl | omega | (simp only [wrs]; omega)), ?_⟩)
        · skip
          repeat (first | exact LeVs.nil | ((conv => whnf); first | exact True.intro | exact .none | exact .row rfl | exact .row (mix_0 _) | exact .row ((mix_0 _).symm) | exact .row (mix_set hy) | exact .row ((mix_set hy).symm) | refine .cells ?_ | refine ⟨_, _, rfl, .rfl, ?_⟩ | refine ⟨_, _, rfl, .any, ?_⟩ | refine ⟨_, _, rfl, .nil, ?_⟩ | refine ⟨_, _, rfl, .int (by first | rfl | omega | (simp only [wrs]; omega)), ?_⟩ | refine ⟨?_, ?_⟩))
        · skip
          repeat (first | exact LeFr.nil | ((conv => whnf); first | exact True.intro | refine ⟨.rfl, ?_⟩ | refine ⟨_, _, rfl, rfl, ?_, ?_⟩))
      · skip
        generalize nl_mix n.s k = hpm
        revert hpm
        rw [mix_all hkl]
        intro hpm
        conv => whnf
        rw [show (decide ((↑k : Int) < (↑(List.map (slC false) n.s).length : Int))) = false from decide_eq_false (by rw [List.length_map]; omega)]
        conv => whnf
        refine InlG.mk (by kernel_rfl) Try.func73 rfl (Nat.le_of_ble_eq_true rfl) (XT.of tabX_ok ?_)
        conv => whnf
        refine RegG.par 10 (by kernel_rfl) ?_
        conv => whnf
        refine CallG.mk (meant_Y _ _ _ n (right_S hr) hp1 hK) rfl ?_
        conv => whnf
        refine .inl ?_
        conv => whnf
        refine InlG.mk (by kernel_rfl) Try.func56 rfl (Nat.le_of_ble_eq_true rfl) (XT.of tabX_ok ?_)
        conv => whnf
        refine RegG.par 13 (by kernel_rfl) ?_
        conv => whnf
        refine ⟨_, rfl, ?_⟩
        conv => whnf
        refine ⟨by rw [List.length_map]; exact slot_lt hx, ?_⟩
        conv => whnf
        refine IdxG.mk (slot_at hx) rfl ?_
        conv => whnf
        refine CallG.mk (hears_X _ _ _ _ n x (by omega)) rfl ?_
        conv => whnf
        refine bT (by simp [hm]) ?_
        conv => whnf
        refine ⟨.inr rfl, ?_⟩
        conv => whnf
        refine ⟨.inr rfl, ?_⟩
        conv => whnf
        refine ⟨.inr rfl, ?_⟩
        conv => whnf
        refine ⟨.inr rfl, ?_⟩
        conv => whnf
        refine RegG.late 6 [(1, 0, 3), (2, 0, 3)] (by kernel_rfl) ?_
        conv => whnf
        refine ⟨rfl, ?_⟩
        conv => whnf
        refine ⟨rfl, ?_⟩
        conv => whnf
        refine FinG.mk none ?_ (by rintro _ ⟨⟩)
        simp only [outs, List.length_map, List.length_append, List.length_take, List.length_drop, List.length_cons, List.length_nil, slC, dfC, netX, net0, List.map_nil, mix_len, pkX, slX, sl0, delS]
  · skip
    rw [show delivN n p = (⟨delS n.s k0, n.l, n.d⟩, x, 0) from by simp [delivN, hr, hK, slotAt, hx, hm]] at hR
    subst hR
    conv => whnf
    refine InlG.mk (by kernel_rfl) Try.func55 rfl (Nat.le_of_ble_eq_true rfl) (XT.of tabX_ok ?_)
    conv => whnf
    refine InlG.mk (by kernel_rfl) Try.func44 rfl (Nat.le_of_ble_eq_true rfl) (XT.of tabX_ok ?_)
    conv => whnf
    refine .ct ?_
    conv => whnf
    refine CallG.mk (check_t (by assumption) _ _ _ ho) rfl ?_
    conv => whnf
    refine RegG.par 7 (by kernel_rfl) ?_
    conv => whnf
    refine .cl (nl_sl _ _) clone_slot rfl (sl_len _ _) (sl_one _ _) (by simp only [List.length_map]; omega) ?_
    conv => whnf
    refine .cl (nl_df _) clone_deaf rfl (df_len _) (df_one _) (by simp only [List.length_map]; omega) ?_
    conv => whnf
    refine XT.loop tabX_ok (Y := Nat) [7, 17, 24, 26, 27, 28, 29, 30, 31, 32, 33, 34, 35, 36, 37, 38, 39, 40, 41, 42, 43] (fun k => [(26, .p (.v (.int .i64 ((k : Int)))) (nlv _))]) (fun k => [(8, .cells 25 [.row 10, .p (.v (.int .i64 n.l)) (nlv _), .row 11]), (10, .row 65 4 (mixS n.s k) (nl_mix _ _))]) (fun k => k ≤ n.s.length) (fun k => n.s.length - k) 0 (Nat.zero_le _) ?_ ?_
    · skip
      refine ⟨?_, ?_, ?_⟩
      · skip
        repeat ((conv => whnf); first | exact True.intro | refine ⟨.rfl, ?_⟩ | refine ⟨.any, ?_⟩ | refine ⟨.nil, ?_⟩ | refine ⟨.int (by first | rfl | omega | (simp only [wrs]; omega)), ?_⟩)
      · skip
        repeat (first | exact LeVs.nil | ((conv => whnf); first | exact True.intro | exact .none | exact .row rfl | exact .row (mix_0 _) | exact .row ((mix_0 _).symm) | exact .row (mix_set hy) | exact .row ((mix_set hy).symm) | refine .cells ?_ | refine ⟨_, _, rfl, .rfl, ?_⟩ | refine ⟨_, _, rfl, .any, ?_⟩ | refine ⟨_, _, rfl, .nil, ?_⟩ | refine ⟨_, _, rfl, .int (by first | rfl | omega | (simp only [wrs]; omega)), ?_⟩ | refine ⟨?_, ?_⟩))
      · skip
        repeat (first | exact LeFr.nil | ((conv => whnf); first | exact True.intro | refine ⟨.rfl, ?_⟩ | refine ⟨_, _, rfl, rfl, ?_, ?_⟩))
    · skip
      rintro k hk
      rcases Nat.lt_or_ge k n.s.length with hkl | hkl
      · skip
        obtain ⟨y, hy⟩ : ∃ y, n.s[k]? = some y := ⟨_, List.getElem?_eq_getElem hkl⟩
        have hyn := (ho.s y (List.mem_of_getElem? hy)).n
        conv => whnf
        rw [show (decide ((↑k : Int) < (↑(List.map (slC false) n.s).length : Int))) = true from decide_eq_true (by rw [List.length_map]; omega)]
        conv => whnf
        refine RegG.par 14 (by kernel_rfl) ?_
        conv => whnf
        refine ⟨_, rfl, ?_⟩
        conv => whnf
        refine ⟨by simp [List.length_map, List.length_append, List.length_take, List.length_drop, List.length_cons, List.length_nil, slC, dfC, netX, net0, List.map_nil, mix_len, pkX, slX, sl0, delS]; omega, ?_⟩
        conv => whnf
        refine IdxG.mk (mix_at hy) rfl ?_
        conv => whnf
        refine .cl (nl_by1 _) clone_byte rfl (by_len _) (by_one _) (by simp only [List.length_map]; omega) ?_
        conv => whnf
        refine ⟨_, rfl, ?_⟩
        conv => whnf
        refine ⟨by simp [List.length_map, List.length_append, List.length_take, List.length_drop, List.length_cons, List.length_nil, slC, dfC, netX, net0, List.map_nil, mix_len, pkX, slX, sl0, delS]; omega, ?_⟩
        conv => whnf
        refine IdxG.mk (mix_at hy) rfl ?_
        conv => whnf
        refine ⟨rfl, ?_⟩
        conv => whnf
        refine ⟨(k + 1), (by omega), (by omega), ?_⟩
        refine ⟨?_, ?_, ?_⟩
        · skip
          repeat ((conv => whnf); first | exact True.intro | refine ⟨.rfl, ?_⟩ | refine ⟨.any, ?_⟩ | refine ⟨.nil, ?_⟩ | refine ⟨.int (by first | rfl | omega | (simp only [wrs]; omega)), ?_⟩)
        · skip
          repeat (first | exact LeVs.nil | ((conv => whnf); first | exact True.intro | exact .none | exact .row rfl | exact .row (mix_0 _) | exact .row ((mix_0 _).symm) | exact .row (mix_set hy) | exact .row ((mix_set hy).symm) | refine .cells ?_ | refine ⟨_, _, rfl, .rfl, ?_⟩ | refine ⟨_, _, rfl, .any, ?_⟩ | refine ⟨_, _, rfl, .nil, ?_⟩ | refine ⟨_, _, rfl, .int (by first | rfl | omega | (simp only [wrs]; omega)), ?_⟩ | refine ⟨?_, ?_⟩))
        · skip
          repeat (first | exact LeFr.nil | ((conv => whnf); first | exact True.intro | refine ⟨.rfl, ?_⟩ | refine ⟨_, _, rfl, rfl, ?_, ?_⟩))
      · skip
        generalize nl_mix n.s k = hpm
        revert hpm
        rw [mix_all hkl]
        intro hpm
        conv => whnf
        rw [show (decide ((↑k : Int) < (↑(List.map (slC false) n.s).length : Int))) = false from decide_eq_false (by rw [List.length_map]; omega)]
        conv => whnf
        refine InlG.mk (by kernel_rfl) Try.func73 rfl (Nat.le_of_ble_eq_true rfl) (XT.of tabX_ok ?_)
        conv => whnf
        refine RegG.par 10 (by kernel_rfl) ?_
        conv => whnf
        refine CallG.mk (meant_Y _ _ _ n (right_S hr) hp1 hK) rfl ?_
        conv => whnf
        refine .inl ?_
        conv => whnf
        refine InlG.mk (by kernel_rfl) Try.func56 rfl (Nat.le_of_ble_eq_true rfl) (XT.of tabX_ok ?_)
        conv => whnf
        refine RegG.par 13 (by kernel_rfl) ?_
        conv => whnf
        refine ⟨_, rfl, ?_⟩
        conv => whnf
        refine ⟨by rw [List.length_map]; exact slot_lt hx, ?_⟩
        conv => whnf
        refine IdxG.mk (slot_at hx) rfl ?_
        conv => whnf
        refine CallG.mk (hears_X _ _ _ _ n x (by omega)) rfl ?_
        conv => whnf
        refine bF (by simp [hm]) ?_
        conv => whnf
        refine ⟨_, rfl, ?_⟩
        conv => whnf
        refine ⟨by rw [List.length_map]; exact slot_lt hx, ?_⟩
        conv => whnf
        refine IdxG.mk (slot_at hx) rfl ?_
        conv => whnf
        refine .inl ?_
        conv => whnf
        refine InlG.mk (by kernel_rfl) Try.func57 rfl (Nat.le_of_ble_eq_true rfl) (XT.of tabX_ok ?_)
        conv => whnf
        refine .wr (WCall.del delC_slot (by kernel_rfl) (by have h8 := slot_lt hx; rw [IntKind.wrap_i64]; omega) rfl (by rw [List.length_map]; exact slot_lt hx) (by rw [List.length_map]; omega) (sl_one _ _) (els' := (delS n.s k0).map (slC true)) (by simp [delS, List.map_append, List.map_take, List.map_drop]) (nl_sl _ _) ?_)
        conv => whnf
        refine ⟨.inr rfl, ?_⟩
        conv => whnf
        refine ⟨.inr rfl, ?_⟩
        conv => whnf
        refine ⟨.inr rfl, ?_⟩
        conv => whnf
        refine ⟨.inr rfl, ?_⟩
        conv => whnf
        refine ⟨.inr rfl, ?_⟩
        conv => whnf
        refine RegG.late 6 [(1, 0, 3), (2, 0, 3)] (by kernel_rfl) ?_
        conv => whnf
        refine ⟨rfl, ?_⟩
        conv => whnf
        refine ⟨rfl, ?_⟩
        conv => whnf
        refine FinG.mk none ?_ (by rintro _ ⟨⟩)
        simp only [outs, List.length_map, List.length_append, List.length_take, List.length_drop, List.length_cons, List.length_nil, slC, dfC, netX, net0, List.map_nil, mix_len, pkX, slX, sl0, delS]
        exact ⟨⟨⟨⟨_, _, rfl⟩, fr_sl _, by simp⟩, ⟨_, _, rfl⟩, fr_df _, by simp⟩, fr_by1 _⟩
theorem slw {l : Int} {i : Nat} (hl : 0 ≤ l ∧ l < 80) (hi : i ≤ 80) : (IntKind.i64.wrap (IntKind.i64.wrap (l + 1) + (i : Int))).tmod 80 = slotN l i := by
  unfold slotN
  rw [show IntKind.i64.wrap (l + 1) = l + 1 from by rw [IntKind.wrap_i64]; omega, show IntKind.i64.wrap (l + 1 + (i : Int)) = l + 1 + (i : Int) from by rw [IntKind.wrap_i64]; omega, Int.tmod_eq_emod_of_nonneg (by omega)]
theorem doubX_t {n : NetA} {x : Sl} {i : Nat} (hi : i < 80) (h : hasS n.s (slotN n.l i) = false) (h2 : ∀ j, j < i → hasS n.s (slotN n.l j) = true) : doubX n x = (⟨insS n.s ⟨slotN n.l i, x.f, x.t, x.b⟩, slotN n.l i, n.d⟩, 0) := by
  unfold doubX
  rw [fill_t hi h h2]
  rfl
theorem doubX_f {n : NetA} {x : Sl} (h2 : ∀ j, j < 80 → hasS n.s (slotN n.l j) = true) : doubX n x = (net0, 6) := by
  unfold doubX
  rw [fill_f h2]
  rfl
theorem ins_map {s : List Sl} {l f t a : Int} {b : List Int} {i : Nat} (h : a = slotN l i) : (s.map (slC true)).take (posS s (slotN l i)) ++ [[.v (.int .i64 a), .v (.int .i64 f), .v (.int .i64 t), .sl true (b.map by1)]] ++ (s.map (slC true)).drop (posS s (slotN l i)) = (insS s ⟨slotN l i, f, t, b⟩).map (slC true) := by
  subst h
  simp [insS, slC, List.map_append, List.map_take, List.map_drop]
set_option maxRecDepth 20000 in
theorem double_X (b c e : Bool) (n : NetA) (p : Int) (ho : n.Ok) (hp1 : p < 9223372036854775808) (R : NetA × Int) (hR : R = doubN n p) : XMeets Try.prog 28 [netT b c e n, .v (.int .i64 p)] (.tu [netX R.1, .p (.v (.int .i64 (R.2))) (nlv _)]) := by
  refine XMeets.of_X tabX_ok (avs := [.ag [.p (.sl false (n.s.map (slC false))) (nl_sl _ _).sl, .p (.v (.int .i64 n.l)) (nlv _), .p (.sl false (n.d.map dfC)) (nl_df _).sl], .p (.v (.int .i64 p)) (nlv _)]) [(0, .ag [.p (.sl false (n.s.map (slC false))) (nl_sl _ _).sl, .p (.v (.int .i64 n.l)) (nlv _), .p (.sl false (n.d.map dfC)) (nl_df _).sl]), (1, .p (.v (.int .i64 p)) (nlv _))] (by kernel_rfl) Try.func28 rfl (by simp [PuL, Pu, netT, slC, dfC, pu_by1, pu_sl, pu_df]) (by simp only [untagL, untag, netT, untag_by1, untag_sl, untag_df]; rfl) rfl rfl ?_
  intro B w0
  have hsn := ho.sn
  have hdn := ho.dn
  rcases net_cases n p with hr | ⟨hr, g, hg, hK⟩ | ⟨hr, k0, x, hx, hK⟩
  · skip
    rw [show doubN n p = (net0, 330) from by simp [doubN, hr]] at hR
    subst hR
    conv => whnf
    refine .inl ?_
    conv => whnf
    refine InlG.mk (by kernel_rfl) Try.func55 rfl (Nat.le_of_ble_eq_true rfl) (XT.of tabX_ok ?_)
    conv => whnf
    refine InlG.mk (by kernel_rfl) Try.func44 rfl (Nat.le_of_ble_eq_true rfl) (XT.of tabX_ok ?_)
    conv => whnf
    refine .ct ?_
    conv => whnf
    refine CallG.mk (check_f (by assumption) _ _ _ ho) rfl ?_
    conv => whnf
    refine ⟨.inr rfl, ?_⟩
    conv => whnf
    refine ⟨.inr rfl, ?_⟩
    conv => whnf
    refine FinG.mk none ?_ (by rintro _ ⟨⟩)
    simp only [outs, List.length_map, List.length_append, List.length_take, List.length_drop, List.length_cons, List.length_nil, slC, dfC, netX, net0, List.map_nil, mix_len, pkX, slX, sl0, delS]
  · skip
    rw [show doubN n p = (net0, g) from by simp [doubN, hr, hK, hg]] at hR
    subst hR
    conv => whnf
    refine .inl ?_
    conv => whnf
    refine InlG.mk (by kernel_rfl) Try.func55 rfl (Nat.le_of_ble_eq_true rfl) (XT.of tabX_ok ?_)
    conv => whnf
    refine InlG.mk (by kernel_rfl) Try.func44 rfl (Nat.le_of_ble_eq_true rfl) (XT.of tabX_ok ?_)
    conv => whnf
    refine .ct ?_
    conv => whnf
    refine CallG.mk (check_t (by assumption) _ _ _ ho) rfl ?_
    conv => whnf
    refine RegG.par 7 (by kernel_rfl) ?_
    conv => whnf
    refine .cl (nl_sl _ _) clone_slot rfl (sl_len _ _) (sl_one _ _) (by simp only [List.length_map]; omega) ?_
    conv => whnf
    refine .cl (nl_df _) clone_deaf rfl (df_len _) (df_one _) (by simp only [List.length_map]; omega) ?_
    conv => whnf
    refine XT.loop tabX_ok (Y := Nat) [7, 17, 24, 26, 27, 28, 29, 30, 31, 32, 33, 34, 35, 36, 37, 38, 39, 40, 41, 42, 43] (fun k => [(26, .p (.v (.int .i64 ((k : Int)))) (nlv _))]) (fun k => [(6, .cells 25 [.row 8, .p (.v (.int .i64 n.l)) (nlv _), .row 9]), (8, .row 65 4 (mixS n.s k) (nl_mix _ _))]) (fun k => k ≤ n.s.length) (fun k => n.s.length - k) 0 (Nat.zero_le _) ?_ ?_
    · skip
      refine ⟨?_, ?_, ?_⟩
      · skip
        repeat ((conv => whnf); first | exact True.intro | refine ⟨.rfl, ?_⟩ | refine ⟨.any, ?_⟩ | refine ⟨.nil, ?_⟩ | refine ⟨.int (by first | rfl | omega | (simp only [wrs]; omega)), ?_⟩)
      · skip
        repeat (first | exact LeVs.nil | ((conv => whnf); first | exact True.intro | exact .none | exact .row rfl | exact .row (mix_0 _) | exact .row ((mix_0 _).symm) | exact .row (mix_set hy) | exact .row ((mix_set hy).symm) | refine .cells ?_ | refine ⟨_, _, rfl, .rfl, ?_⟩ | refine ⟨_, _, rfl, .any, ?_⟩ | refine ⟨_, _, rfl, .nil, ?_⟩ | refine ⟨_, _, rfl, .int (by first | rfl | omega | (simp only [wrs]; omega)), ?_⟩ | refine ⟨?_, ?_⟩))
      · skip
        repeat (first | exact LeFr.nil | ((conv => whnf); first | exact True.intro | refine ⟨.rfl, ?_⟩ | refine ⟨_, _, rfl, rfl, ?_, ?_⟩))
    · skip
      rintro k hk
      rcases Nat.lt_or_ge k n.s.length with hkl | hkl
      · skip
        obtain ⟨y, hy⟩ : ∃ y, n.s[k]? = some y := ⟨_, List.getElem?_eq_getElem hkl⟩
        have hyn := (ho.s y (List.mem_of_getElem? hy)).n
        conv => whnf
        rw [show (decide ((↑k : Int) < (↑(List.map (slC false) n.s).length : Int))) = true from decide_eq_true (by rw [List.length_map]; omega)]
        conv => whnf
        refine RegG.par 14 (by kernel_rfl) ?_
        conv => whnf
        refine ⟨_, rfl, ?_⟩
        conv => whnf
        refine ⟨by simp [List.length_map, List.length_append, List.length_take, List.length_drop, List.length_cons, List.length_nil, slC, dfC, netX, net0, List.map_nil, mix_len, pkX, slX, sl0, delS]; omega, ?_⟩
        conv => whnf
        refine IdxG.mk (mix_at hy) rfl ?_
        conv => whnf
        refine .cl (nl_by1 _) clone_byte rfl (by_len _) (by_one _) (by simp only [List.length_map]; omega) ?_
        conv => whnf
        refine ⟨_, rfl, ?_⟩
        conv => whnf
        refine ⟨by simp [List.length_map, List.length_append, List.length_take, List.length_drop, List.length_cons, List.length_nil, slC, dfC, netX, net0, List.map_nil, mix_len, pkX, slX, sl0, delS]; omega, ?_⟩
        conv => whnf
        refine IdxG.mk (mix_at hy) rfl ?_
        conv => whnf
        refine ⟨rfl, ?_⟩
        conv => whnf
        refine ⟨(k + 1), (by omega), (by omega), ?_⟩
        refine ⟨?_, ?_, ?_⟩
        · skip
          repeat ((conv => whnf); first | exact True.intro | refine ⟨.rfl, ?_⟩ | refine ⟨.any, ?_⟩ | refine ⟨.nil, ?_⟩ | refine ⟨.int (by first | rfl | omega | (simp only [wrs]; omega)), ?_⟩)
        · skip
          repeat (first | exact LeVs.nil | ((conv => whnf); first | exact True.intro | exact .none | exact .row rfl | exact .row (mix_0 _) | exact .row ((mix_0 _).symm) | exact .row (mix_set hy) | exact .row ((mix_set hy).symm) | refine .cells ?_ | refine ⟨_, _, rfl, .rfl, ?_⟩ | refine ⟨_, _, rfl, .any, ?_⟩ | refine ⟨_, _, rfl, .nil, ?_⟩ | refine ⟨_, _, rfl, .int (by first | rfl | omega | (simp only [wrs]; omega)), ?_⟩ | refine ⟨?_, ?_⟩))
        · skip
          repeat (first | exact LeFr.nil | ((conv => whnf); first | exact True.intro | refine ⟨.rfl, ?_⟩ | refine ⟨_, _, rfl, rfl, ?_, ?_⟩))
      · skip
        generalize nl_mix n.s k = hpm
        revert hpm
        rw [mix_all hkl]
        intro hpm
        conv => whnf
        rw [show (decide ((↑k : Int) < (↑(List.map (slC false) n.s).length : Int))) = false from decide_eq_false (by rw [List.length_map]; omega)]
        conv => whnf
        refine .inl ?_
        conv => whnf
        refine InlG.mk (by kernel_rfl) Try.func73 rfl (Nat.le_of_ble_eq_true rfl) (XT.of tabX_ok ?_)
        conv => whnf
        refine RegG.par 10 (by kernel_rfl) ?_
        conv => whnf
        refine CallG.mk (meant_Y _ _ _ n (right_S hr) hp1 hK) rfl ?_
        conv => whnf
        refine bT (by simp [hg]; done) ?_
        conv => whnf
        refine ⟨.inr rfl, ?_⟩
        conv => whnf
        refine bT (by simp [hg]; done) ?_
        conv => whnf
        refine ⟨.inr rfl, ?_⟩
        conv => whnf
        refine ⟨.inr rfl, ?_⟩
        conv => whnf
        refine FinG.mk none ?_ (by rintro _ ⟨⟩)
        simp only [outs, List.length_map, List.length_append, List.length_take, List.length_drop, List.length_cons, List.length_nil, slC, dfC, netX, net0, List.map_nil, mix_len, pkX, slX, sl0, delS]
  · skip
    rw [show doubN n p = doubX n x from by simp [doubN, hr, hK, slotAt, hx]] at hR
    have hl := (right_of hr).l
    have hxn := (ho.s x (List.mem_of_getElem? hx)).n
    conv => whnf
    refine .inl ?_
    conv => whnf
    refine InlG.mk (by kernel_rfl) Try.func55 rfl (Nat.le_of_ble_eq_true rfl) (XT.of tabX_ok ?_)
    conv => whnf
    refine InlG.mk (by kernel_rfl) Try.func44 rfl (Nat.le_of_ble_eq_true rfl) (XT.of tabX_ok ?_)
    conv => whnf
    refine .ct ?_
    conv => whnf
    refine CallG.mk (check_t (by assumption) _ _ _ ho) rfl ?_
    conv => whnf
    refine RegG.par 7 (by kernel_rfl) ?_
    conv => whnf
    refine .cl (nl_sl _ _) clone_slot rfl (sl_len _ _) (sl_one _ _) (by simp only [List.length_map]; omega) ?_
    conv => whnf
    refine .cl (nl_df _) clone_deaf rfl (df_len _) (df_one _) (by simp only [List.length_map]; omega) ?_
    conv => whnf
    refine XT.loop tabX_ok (Y := Nat) [7, 17, 24, 26, 27, 28, 29, 30, 31, 32, 33, 34, 35, 36, 37, 38, 39, 40, 41, 42, 43] (fun k => [(26, .p (.v (.int .i64 ((k : Int)))) (nlv _))]) (fun k => [(6, .cells 25 [.row 8, .p (.v (.int .i64 n.l)) (nlv _), .row 9]), (8, .row 65 4 (mixS n.s k) (nl_mix _ _))]) (fun k => k ≤ n.s.length) (fun k => n.s.length - k) 0 (Nat.zero_le _) ?_ ?_
    · skip
      refine ⟨?_, ?_, ?_⟩
      · skip
        repeat ((conv => whnf); first | exact True.intro | refine ⟨.rfl, ?_⟩ | refine ⟨.any, ?_⟩ | refine ⟨.nil, ?_⟩ | refine ⟨.int (by first | rfl | omega | (simp only [wrs]; omega)), ?_⟩)
      · skip
        repeat (first | exact LeVs.nil | ((conv => whnf); first | exact True.intro | exact .none | exact .row rfl | exact .row (mix_0 _) | exact .row ((mix_0 _).symm) | exact .row (mix_set hy) | exact .row ((mix_set hy).symm) | refine .cells ?_ | refine ⟨_, _, rfl, .rfl, ?_⟩ | refine ⟨_, _, rfl, .any, ?_⟩ | refine ⟨_, _, rfl, .nil, ?_⟩ | refine ⟨_, _, rfl, .int (by first | rfl | omega | (simp only [wrs]; omega)), ?_⟩ | refine ⟨?_, ?_⟩))
      · skip
        repeat (first | exact LeFr.nil | ((conv => whnf); first | exact True.intro | refine ⟨.rfl, ?_⟩ | refine ⟨_, _, rfl, rfl, ?_, ?_⟩))
    · skip
      rintro k hk
      rcases Nat.lt_or_ge k n.s.length with hkl | hkl
      · skip
        obtain ⟨y, hy⟩ : ∃ y, n.s[k]? = some y := ⟨_, List.getElem?_eq_getElem hkl⟩
        have hyn := (ho.s y (List.mem_of_getElem? hy)).n
        conv => whnf
        rw [show (decide ((↑k : Int) < (↑(List.map (slC false) n.s).length : Int))) = true from decide_eq_true (by rw [List.length_map]; omega)]
        conv => whnf
        refine RegG.par 14 (by kernel_rfl) ?_
        conv => whnf
        refine ⟨_, rfl, ?_⟩
        conv => whnf
        refine ⟨by simp [List.length_map, List.length_append, List.length_take, List.length_drop, List.length_cons, List.length_nil, slC, dfC, netX, net0, List.map_nil, mix_len, pkX, slX, sl0, delS]; omega, ?_⟩
        conv => whnf
        refine IdxG.mk (mix_at hy) rfl ?_
        conv => whnf
        refine .cl (nl_by1 _) clone_byte rfl (by_len _) (by_one _) (by simp only [List.length_map]; omega) ?_
        conv => whnf
        refine ⟨_, rfl, ?_⟩
        conv => whnf
        refine ⟨by simp [List.length_map, List.length_append, List.length_take, List.length_drop, List.length_cons, List.length_nil, slC, dfC, netX, net0, List.map_nil, mix_len, pkX, slX, sl0, delS]; omega, ?_⟩
        conv => whnf
        refine IdxG.mk (mix_at hy) rfl ?_
        conv => whnf
        refine ⟨rfl, ?_⟩
        conv => whnf
        refine ⟨(k + 1), (by omega), (by omega), ?_⟩
        refine ⟨?_, ?_, ?_⟩
        · skip
          repeat ((conv => whnf); first | exact True.intro | refine ⟨.rfl, ?_⟩ | refine ⟨.any, ?_⟩ | refine ⟨.nil, ?_⟩ | refine ⟨.int (by first | rfl | omega | (simp only [wrs]; omega)), ?_⟩)
        · skip
          repeat (first | exact LeVs.nil | ((conv => whnf); first | exact True.intro | exact .none | exact .row rfl | exact .row (mix_0 _) | exact .row ((mix_0 _).symm) | exact .row (mix_set hy) | exact .row ((mix_set hy).symm) | refine .cells ?_ | refine ⟨_, _, rfl, .rfl, ?_⟩ | refine ⟨_, _, rfl, .any, ?_⟩ | refine ⟨_, _, rfl, .nil, ?_⟩ | refine ⟨_, _, rfl, .int (by first | rfl | omega | (simp only [wrs]; omega)), ?_⟩ | refine ⟨?_, ?_⟩))
        · skip
          repeat (first | exact LeFr.nil | ((conv => whnf); first | exact True.intro | refine ⟨.rfl, ?_⟩ | refine ⟨_, _, rfl, rfl, ?_, ?_⟩))
      · skip
        generalize nl_mix n.s k = hpm
        revert hpm
        rw [mix_all hkl]
        intro hpm
        conv => whnf
        rw [show (decide ((↑k : Int) < (↑(List.map (slC false) n.s).length : Int))) = false from decide_eq_false (by rw [List.length_map]; omega)]
        conv => whnf
        refine .inl ?_
        conv => whnf
        refine InlG.mk (by kernel_rfl) Try.func73 rfl (Nat.le_of_ble_eq_true rfl) (XT.of tabX_ok ?_)
        conv => whnf
        refine RegG.par 10 (by kernel_rfl) ?_
        conv => whnf
        refine CallG.mk (meant_Y _ _ _ n (right_S hr) hp1 hK) rfl ?_
        conv => whnf
        refine .inl ?_
        conv => whnf
        refine InlG.mk (by kernel_rfl) Try.func58 rfl (Nat.le_of_ble_eq_true rfl) (XT.of tabX_ok ?_)
        conv => whnf
        refine ⟨_, rfl, ?_⟩
        conv => whnf
        refine ⟨by rw [List.length_map]; exact slot_lt hx, ?_⟩
        conv => whnf
        refine IdxG.mk (slot_at hx) rfl ?_
        conv => whnf
        refine .inl ?_
        conv => whnf
        refine InlG.mk (by kernel_rfl) Try.func49 rfl (Nat.le_of_ble_eq_true rfl) (XT.of tabX_ok ?_)
        conv => whnf
        refine .ct ?_
        conv => whnf
        refine .cl (nl_by1 _) clone_byte rfl (by_len _) (by_one _) (by simp only [List.length_map]; omega) ?_
        conv => whnf
        refine XT.frz 11 ?_
        conv => whnf
        refine XT.loop tabX_ok (Y := Nat) [4, 5, 6, 7, 8, 13, 14, 15, 16, 17, 18, 19, 20, 21, 22, 23, 24, 25, 26, 27, 28, 29, 30, 31, 32, 33, 34, 35, 36, 37, 38, 39, 40, 41, 42, 43, 44, 45, 46, 47, 48, 49, 50, 51] (fun i => [(13, .p (.v (.int .i64 ((i : Int)))) (nlv _))]) (fun i => []) (fun i => i ≤ 80 ∧ ∀ j, j < i → hasS n.s (slotN n.l j) = true) (fun i => 80 - i) 0 ⟨by omega, fun j hj => by omega⟩ ?_ ?_
        · skip
          refine ⟨?_, ?_, ?_⟩
          · skip
            repeat ((conv => whnf); first | exact True.intro | refine ⟨.rfl, ?_⟩ | refine ⟨.any, ?_⟩ | refine ⟨.nil, ?_⟩ | refine ⟨.int (by first | rfl | omega | (simp only [wrs]; omega)), ?_⟩)
          · skip
            repeat (first | exact LeVs.nil | ((conv => whnf); first | exact True.intro | exact .none | exact .row rfl | refine .cells ?_ | refine ⟨_, _, rfl, .rfl, ?_⟩ | refine ⟨_, _, rfl, .any, ?_⟩ | refine ⟨_, _, rfl, .nil, ?_⟩ | refine ⟨_, _, rfl, .int (by first | rfl | omega | (simp only [wrs]; omega)), ?_⟩ | refine ⟨?_, ?_⟩))
          · skip
            repeat (first | exact LeFr.nil | ((conv => whnf); first | exact True.intro | refine ⟨.rfl, ?_⟩ | refine ⟨_, _, rfl, rfl, ?_, ?_⟩))
        · skip
          rintro i ⟨hi, h2⟩
          conv => whnf
          cases hc1 : (decide ((↑i : Int) < 80))
          · skip
            try simp only [bls] at hc1
            conv => whnf
            refine ⟨.inr rfl, ?_⟩
            conv => whnf
            refine ⟨.inr rfl, ?_⟩
            conv => whnf
            refine ⟨.inr rfl, ?_⟩
            conv => whnf
            refine ⟨.inr rfl, ?_⟩
            conv => whnf
            refine ⟨.inr rfl, ?_⟩
            conv => whnf
            refine FinG.mk none ?_ (by rintro _ ⟨⟩)
            simp only [outs, List.length_map, List.length_append, List.length_take, List.length_drop, List.length_cons, List.length_nil, slC, dfC, netX, net0, List.map_nil, mix_len, pkX, slX, sl0, delS]
            rw [doubX_f (fun j hj => h2 j (by omega))] at hR
            subst hR
            simp [net0]
          · skip
            try simp only [bls] at hc1
            conv => whnf
            refine .ct ?_
            conv => whnf
            refine CallG.mk (at_Y _ _ _ ⟨n.s, n.l, n.d⟩ (slw hl (by omega)) (right_S hr) (slotN_way _ _)) rfl ?_
            conv => whnf
            refine bS (fun hc2 => ?_) (fun hc2 => ?_)
            · skip
              try simp only [bls] at hc2
              conv => whnf
              refine RegG.wait 15 1 (by kernel_rfl) ?_
              refine RegG.wait 15 12 (by kernel_rfl) ?_
              refine RegG.perm [2,3,4,5,6,7,8,9,10,11,0,1,12,13,14,15,16,17,18] (by kernel_rfl) ?_
              refine RegG.wr 9 5 45 8 (by kernel_rfl) rfl rfl ?_
              conv => whnf
              refine ⟨_, RowOp.ins insC_slot (by kernel_rfl) rfl rfl rfl rfl rfl rfl rfl rfl rfl (by rw [List.length_map]; exact posS_le _ _) (by have h8 := (right_S hr).n; rw [List.length_map]; omega) (sl_one _ _) rfl (els' := (insS n.s ⟨slotN n.l i, x.f, x.t, x.b⟩).map (slC true)) (ins_map (slw hl (by omega))) (nl_sl _ _), ?_⟩
              conv => whnf
              refine ⟨.inr rfl, ?_⟩
              conv => whnf
              refine ⟨.inr rfl, ?_⟩
              conv => whnf
              refine ⟨.inr rfl, ?_⟩
              conv => whnf
              refine ⟨.inr rfl, ?_⟩
              conv => whnf
              refine ⟨.inr rfl, ?_⟩
              conv => whnf
              refine FinG.mk none ?_ (by rintro _ ⟨⟩)
              simp only [outs, List.length_map, List.length_append, List.length_take, List.length_drop, List.length_cons, List.length_nil, slC, dfC, netX, net0, List.map_nil, mix_len, pkX, slX, sl0, delS]
              rw [doubX_t (by omega) (by assumption) h2] at hR
              subst hR
              rw [slw hl (by omega)]
              simp [fr_sl, fr_df]
            · skip
              try simp only [bls] at hc2
              conv => whnf
              refine ⟨(i + 1), ⟨by omega, fun j hj => by rcases Nat.lt_or_ge j i with h8 | h8; exact h2 j h8; obtain rfl : j = i := (by omega); assumption⟩, (by omega), ?_⟩
              refine ⟨?_, ?_, ?_⟩
              · skip
                repeat ((conv => whnf); first | exact True.intro | refine ⟨.rfl, ?_⟩ | refine ⟨.any, ?_⟩ | refine ⟨.nil, ?_⟩ | refine ⟨.int (by first | rfl | omega | (simp only [wrs]; omega)), ?_⟩)
              · skip
                repeat (first | exact LeVs.nil | ((conv => whnf); first | exact True.intro | exact .none | exact .row rfl | refine .cells ?_ | refine ⟨_, _, rfl, .rfl, ?_⟩ | refine ⟨_, _, rfl, .any, ?_⟩ | refine ⟨_, _, rfl, .nil, ?_⟩ | refine ⟨_, _, rfl, .int (by first | rfl | omega | (simp only [wrs]; omega)), ?_⟩ | refine ⟨?_, ?_⟩))
              · skip
                repeat (first | exact LeFr.nil | ((conv => whnf); first | exact True.intro | refine ⟨.rfl, ?_⟩ | refine ⟨_, _, rfl, rfl, ?_, ?_⟩))
section
variable {n : NetA} {fr : Int} {ms : List Msg} {k : Nat} {m : Msg} {s : List Sl} {l : Int}
theorem send_no1 (h : sendK n fr (ms.take k) = (s, l)) (hm : ms[k]? = some m) (hp : pkB fr m.1 m.2.length = false) : sendK n fr (ms.take (k + 1)) = (s, l) := by
  rw [sendK_s hm, h]; unfold sstep; rw [if_neg (by simp [hp])]
theorem send_no2 (h : sendK n fr (ms.take k) = (s, l)) (hm : ms[k]? = some m) (hp : (fr, m.1) ∈ n.d) : sendK n fr (ms.take (k + 1)) = (s, l) := by
  rw [sendK_s hm, h]; unfold sstep; rw [if_neg (by simp [hp])]
theorem send_f (h : sendK n fr (ms.take k) = (s, l)) (hm : ms[k]? = some m) (h2 : ∀ j, j < 80 → hasS s (slotN l j) = true) : sendK n fr (ms.take (k + 1)) = (s, l) := by
  rw [sendK_s hm, h]; unfold sstep
  split
  · rw [fill_f h2]
  · rfl
theorem send_t {i : Nat} (h : sendK n fr (ms.take k) = (s, l)) (hm : ms[k]? = some m) (hp : pkB fr m.1 m.2.length = true) (hd : ¬ (fr, m.1) ∈ n.d) (hi : i < 80) (h1 : hasS s (slotN l i) = false) (h2 : ∀ j, j < i → hasS s (slotN l j) = true) : sendK n fr (ms.take (k + 1)) = (insS s ⟨slotN l i, fr, m.1, m.2⟩, slotN l i) := by
  rw [sendK_s hm, h]; unfold sstep
  rw [if_pos ⟨hp, hd⟩, fill_t hi h1 h2]
end
theorem hears_Y (b c e g : Bool) (s : List Sl) (l : Int) (d : List (Int × Int)) (f t : Int) (bs : List Int) (hd : d.length ≤ 100000) : XMeets Try.prog 48 [netT b c e ⟨s, l, d⟩, .agg [.v (.int .i64 f), .v (.int .i64 t), .sl g (bs.map by1)]] (.p (.v (.bool (!decide ((f, t) ∈ d)))) (nlv _)) := hears_X b c e g ⟨s, l, d⟩ ⟨0, f, t, bs⟩ hd
theorem send_cases (n : NetA) (fr : Int) (ms : List Msg) : (rightB n = false ∧ sendN n fr ms = (net0, 330)) ∨ (rightB n = true ∧ nodeB fr = false ∧ sendN n fr ms = (net0, 2)) ∨ (rightB n = true ∧ nodeB fr = true ∧ sendN n fr ms = (⟨(sendK n fr ms).1, (sendK n fr ms).2, n.d⟩, 0)) := by
  unfold sendN
  cases rightB n <;> cases nodeB fr <;> simp
set_option maxHeartbeats 4000000 in
set_option maxRecDepth 20000 in
theorem send_X (b c e b2 c2 : Bool) (n : NetA) (fr : Int) (ms : List Msg) (ho : n.Ok) (hms : ∀ m ∈ ms, m.2.length ≤ 100000) (hmn : ms.length ≤ 100000) (R : NetA × Int) (hR : R = sendN n fr ms) : XMeets Try.prog 21 [netT b c e n, .v (.int .i64 fr), .sl b2 (ms.map (sdC c2))] (.tu [netX R.1, .p (.v (.int .i64 (R.2))) (nlv _)]) := by
  refine XMeets.of_X tabX_ok (avs := [.ag [.p (.sl false (n.s.map (slC false))) (nl_sl _ _).sl, .p (.v (.int .i64 n.l)) (nlv _), .p (.sl false (n.d.map dfC)) (nl_df _).sl], .p (.v (.int .i64 fr)) (nlv _), .p (.sl false (ms.map (sdC false))) (nl_sd _ _).sl]) [(0, .ag [.p (.sl false (n.s.map (slC false))) (nl_sl _ _).sl, .p (.v (.int .i64 n.l)) (nlv _), .p (.sl false (n.d.map dfC)) (nl_df _).sl]), (1, .p (.v (.int .i64 fr)) (nlv _)), (2, .p (.sl false (ms.map (sdC false))) (nl_sd _ _).sl)] (by kernel_rfl) Try.func21 rfl (by simp [PuL, Pu, netT, slC, dfC, pu_by1, pu_sl, pu_df, pu_sd]) (by simp only [untagL, untag, netT, untag_by1, untag_sl, untag_df, untag_sd]; rfl) rfl rfl ?_
  intro B w0
  have hsn := ho.sn
  have hdn := ho.dn
  rcases send_cases n fr ms with ⟨hr, hq⟩ | ⟨hr, hnb, hq⟩ | ⟨hr, hnb, hq⟩
  · skip
    rw [hq] at hR
    subst hR
    conv => whnf
    refine InlG.mk (by kernel_rfl) Try.func44 rfl (Nat.le_of_ble_eq_true rfl) (XT.of tabX_ok ?_)
    conv => whnf
    refine .ct ?_
    conv => whnf
    refine CallG.mk (check_f (by assumption) _ _ _ ho) rfl ?_
    conv => whnf
    refine ⟨.inr rfl, ?_⟩
    conv => whnf
    refine FinG.mk none ?_ (by rintro _ ⟨⟩)
    simp only [outs, List.length_map, List.length_append, List.length_take, List.length_drop, List.length_cons, List.length_nil, slC, dfC, netX, net0, List.map_nil, mix_len, pkX, slX, sl0, delS]
  · skip
    rw [hq] at hR
    subst hR
    conv => whnf
    refine InlG.mk (by kernel_rfl) Try.func44 rfl (Nat.le_of_ble_eq_true rfl) (XT.of tabX_ok ?_)
    conv => whnf
    refine .ct ?_
    conv => whnf
    refine CallG.mk (check_t (by assumption) _ _ _ ho) rfl ?_
    conv => whnf
    refine RegG.par 7 (by kernel_rfl) ?_
    conv => whnf
    refine .cl (nl_sl _ _) clone_slot rfl (sl_len _ _) (sl_one _ _) (by simp only [List.length_map]; omega) ?_
    conv => whnf
    refine .cl (nl_df _) clone_deaf rfl (df_len _) (df_one _) (by simp only [List.length_map]; omega) ?_
    conv => whnf
    refine XT.loop tabX_ok (Y := Nat) [7, 17, 24, 26, 27, 28, 29, 30, 31, 32, 33, 34, 35, 36, 37, 38, 39, 40, 41, 42, 43] (fun k => [(26, .p (.v (.int .i64 ((k : Int)))) (nlv _))]) (fun k => [(4, .cells 25 [.row 6, .p (.v (.int .i64 n.l)) (nlv _), .row 7]), (6, .row 65 4 (mixS n.s k) (nl_mix _ _))]) (fun k => k ≤ n.s.length) (fun k => n.s.length - k) 0 (Nat.zero_le _) ?_ ?_
    · skip
      refine ⟨?_, ?_, ?_⟩
      · skip
        repeat ((conv => whnf); first | exact True.intro | refine ⟨.rfl, ?_⟩ | refine ⟨.any, ?_⟩ | refine ⟨.nil, ?_⟩ | refine ⟨.int (by first | rfl | omega | (simp only [wrs]; omega)), ?_⟩)
      · skip
        repeat (first | exact LeVs.nil | ((conv => whnf); first | exact True.intro | exact .none | exact .row rfl | exact .row (mix_0 _) | exact .row ((mix_0 _).symm) | exact .row (mix_set hy) | exact .row ((mix_set hy).symm) | refine .cells ?_ | refine ⟨_, _, rfl, .rfl, ?_⟩ | refine ⟨_, _, rfl, .any, ?_⟩ | refine ⟨_, _, rfl, .nil, ?_⟩ | refine ⟨_, _, rfl, .int (by first | rfl | omega | (simp only [wrs]; omega)), ?_⟩ | refine ⟨?_, ?_⟩))
      · skip
        repeat (first | exact LeFr.nil | ((conv => whnf); first | exact True.intro | refine ⟨.rfl, ?_⟩ | refine ⟨_, _, rfl, rfl, ?_, ?_⟩))
    · skip
      rintro k hk
      rcases Nat.lt_or_ge k n.s.length with hkl | hkl
      · skip
        obtain ⟨y, hy⟩ : ∃ y, n.s[k]? = some y := ⟨_, List.getElem?_eq_getElem hkl⟩
        have hyn := (ho.s y (List.mem_of_getElem? hy)).n
        conv => whnf
        rw [show (decide ((↑k : Int) < (↑(List.map (slC false) n.s).length : Int))) = true from decide_eq_true (by rw [List.length_map]; omega)]
        conv => whnf
        refine RegG.par 14 (by kernel_rfl) ?_
        conv => whnf
        refine ⟨_, rfl, ?_⟩
        conv => whnf
        refine ⟨by simp [List.length_map, List.length_append, List.length_take, List.length_drop, List.length_cons, List.length_nil, slC, dfC, netX, net0, List.map_nil, mix_len, pkX, slX, sl0, delS]; omega, ?_⟩
        conv => whnf
        refine IdxG.mk (mix_at hy) rfl ?_
        conv => whnf
        refine .cl (nl_by1 _) clone_byte rfl (by_len _) (by_one _) (by simp only [List.length_map]; omega) ?_
        conv => whnf
        refine ⟨_, rfl, ?_⟩
        conv => whnf
        refine ⟨by simp [List.length_map, List.length_append, List.length_take, List.length_drop, List.length_cons, List.length_nil, slC, dfC, netX, net0, List.map_nil, mix_len, pkX, slX, sl0, delS]; omega, ?_⟩
        conv => whnf
        refine IdxG.mk (mix_at hy) rfl ?_
        conv => whnf
        refine ⟨rfl, ?_⟩
        conv => whnf
        refine ⟨(k + 1), (by omega), (by omega), ?_⟩
        refine ⟨?_, ?_, ?_⟩
        · skip
          repeat ((conv => whnf); first | exact True.intro | refine ⟨.rfl, ?_⟩ | refine ⟨.any, ?_⟩ | refine ⟨.nil, ?_⟩ | refine ⟨.int (by first | rfl | omega | (simp only [wrs]; omega)), ?_⟩)
        · skip
          repeat (first | exact LeVs.nil | ((conv => whnf); first | exact True.intro | exact .none | exact .row rfl | exact .row (mix_0 _) | exact .row ((mix_0 _).symm) | exact .row (mix_set hy) | exact .row ((mix_set hy).symm) | refine .cells ?_ | refine ⟨_, _, rfl, .rfl, ?_⟩ | refine ⟨_, _, rfl, .any, ?_⟩ | refine ⟨_, _, rfl, .nil, ?_⟩ | refine ⟨_, _, rfl, .int (by first | rfl | omega | (simp only [wrs]; omega)), ?_⟩ | refine ⟨?_, ?_⟩))
        · skip
          repeat (first | exact LeFr.nil | ((conv => whnf); first | exact True.intro | refine ⟨.rfl, ?_⟩ | refine ⟨_, _, rfl, rfl, ?_, ?_⟩))
      · skip
        generalize nl_mix n.s k = hpm
        revert hpm
        rw [mix_all hkl]
        intro hpm
        conv => whnf
        rw [show (decide ((↑k : Int) < (↑(List.map (slC false) n.s).length : Int))) = false from decide_eq_false (by rw [List.length_map]; omega)]
        conv => whnf
        refine .inl ?_
        conv => whnf
        refine InlG.mk (by kernel_rfl) Try.func45 rfl (Nat.le_of_ble_eq_true rfl) (XT.of tabX_ok ?_)
        conv => whnf
        refine .ct ?_
        conv => whnf
        refine CallG.mk (node_X _) rfl ?_
        conv => whnf
        refine bT (by simp [hnb]; done) ?_
        conv => whnf
        refine ⟨.inr rfl, ?_⟩
        conv => whnf
        refine ⟨.inr rfl, ?_⟩
        conv => whnf
        refine FinG.mk none ?_ (by rintro _ ⟨⟩)
        simp only [outs, List.length_map, List.length_append, List.length_take, List.length_drop, List.length_cons, List.length_nil, slC, dfC, netX, net0, List.map_nil, mix_len, pkX, slX, sl0, delS]
  · skip
    rw [hq] at hR
    subst hR
    conv => whnf
    refine InlG.mk (by kernel_rfl) Try.func44 rfl (Nat.le_of_ble_eq_true rfl) (XT.of tabX_ok ?_)
    conv => whnf
    refine .ct ?_
    conv => whnf
    refine CallG.mk (check_t (by assumption) _ _ _ ho) rfl ?_
    conv => whnf
    refine RegG.par 7 (by kernel_rfl) ?_
    conv => whnf
    refine .cl (nl_sl _ _) clone_slot rfl (sl_len _ _) (sl_one _ _) (by simp only [List.length_map]; omega) ?_
    conv => whnf
    refine .cl (nl_df _) clone_deaf rfl (df_len _) (df_one _) (by simp only [List.length_map]; omega) ?_
    conv => whnf
    refine XT.loop tabX_ok (Y := Nat) [7, 17, 24, 26, 27, 28, 29, 30, 31, 32, 33, 34, 35, 36, 37, 38, 39, 40, 41, 42, 43] (fun k => [(26, .p (.v (.int .i64 ((k : Int)))) (nlv _))]) (fun k => [(4, .cells 25 [.row 6, .p (.v (.int .i64 n.l)) (nlv _), .row 7]), (6, .row 65 4 (mixS n.s k) (nl_mix _ _))]) (fun k => k ≤ n.s.length) (fun k => n.s.length - k) 0 (Nat.zero_le _) ?_ ?_
    · skip
      refine ⟨?_, ?_, ?_⟩
      · skip
        repeat ((conv => whnf); first | exact True.intro | refine ⟨.rfl, ?_⟩ | refine ⟨.any, ?_⟩ | refine ⟨.nil, ?_⟩ | refine ⟨.int (by first | rfl | omega | (simp only [wrs]; omega)), ?_⟩)
      · skip
        repeat (first | exact LeVs.nil | ((conv => whnf); first | exact True.intro | exact .none | exact .row rfl | exact .row (mix_0 _) | exact .row ((mix_0 _).symm) | exact .row (mix_set hy) | exact .row ((mix_set hy).symm) | refine .cells ?_ | refine ⟨_, _, rfl, .rfl, ?_⟩ | refine ⟨_, _, rfl, .any, ?_⟩ | refine ⟨_, _, rfl, .nil, ?_⟩ | refine ⟨_, _, rfl, .int (by first | rfl | omega | (simp only [wrs]; omega)), ?_⟩ | refine ⟨?_, ?_⟩))
      · skip
        repeat (first | exact LeFr.nil | ((conv => whnf); first | exact True.intro | refine ⟨.rfl, ?_⟩ | refine ⟨_, _, rfl, rfl, ?_, ?_⟩))
    · skip
      rintro k hk
      rcases Nat.lt_or_ge k n.s.length with hkl | hkl
      · skip
        obtain ⟨y, hy⟩ : ∃ y, n.s[k]? = some y := ⟨_, List.getElem?_eq_getElem hkl⟩
        have hyn := (ho.s y (List.mem_of_getElem? hy)).n
        conv => whnf
        rw [show (decide ((↑k : Int) < (↑(List.map (slC false) n.s).length : Int))) = true from decide_eq_true (by rw [List.length_map]; omega)]
        conv => whnf
        refine RegG.par 14 (by kernel_rfl) ?_
        conv => whnf
        refine ⟨_, rfl, ?_⟩
        conv => whnf
        refine ⟨by simp [List.length_map, List.length_append, List.length_take, List.length_drop, List.length_cons, List.length_nil, slC, dfC, netX, net0, List.map_nil, mix_len, pkX, slX, sl0, delS]; omega, ?_⟩
        conv => whnf
        refine IdxG.mk (mix_at hy) rfl ?_
        conv => whnf
        refine .cl (nl_by1 _) clone_byte rfl (by_len _) (by_one _) (by simp only [List.length_map]; omega) ?_
        conv => whnf
        refine ⟨_, rfl, ?_⟩
        conv => whnf
        refine ⟨by simp [List.length_map, List.length_append, List.length_take, List.length_drop, List.length_cons, List.length_nil, slC, dfC, netX, net0, List.map_nil, mix_len, pkX, slX, sl0, delS]; omega, ?_⟩
        conv => whnf
        refine IdxG.mk (mix_at hy) rfl ?_
        conv => whnf
        refine ⟨rfl, ?_⟩
        conv => whnf
        refine ⟨(k + 1), (by omega), (by omega), ?_⟩
        refine ⟨?_, ?_, ?_⟩
        · skip
          repeat ((conv => whnf); first | exact True.intro | refine ⟨.rfl, ?_⟩ | refine ⟨.any, ?_⟩ | refine ⟨.nil, ?_⟩ | refine ⟨.int (by first | rfl | omega | (simp only [wrs]; omega)), ?_⟩)
        · skip
          repeat (first | exact LeVs.nil | ((conv => whnf); first | exact True.intro | exact .none | exact .row rfl | exact .row (mix_0 _) | exact .row ((mix_0 _).symm) | exact .row (mix_set hy) | exact .row ((mix_set hy).symm) | refine .cells ?_ | refine ⟨_, _, rfl, .rfl, ?_⟩ | refine ⟨_, _, rfl, .any, ?_⟩ | refine ⟨_, _, rfl, .nil, ?_⟩ | refine ⟨_, _, rfl, .int (by first | rfl | omega | (simp only [wrs]; omega)), ?_⟩ | refine ⟨?_, ?_⟩))
        · skip
          repeat (first | exact LeFr.nil | ((conv => whnf); first | exact True.intro | refine ⟨.rfl, ?_⟩ | refine ⟨_, _, rfl, rfl, ?_, ?_⟩))
      · skip
        generalize nl_mix n.s k = hpm
        revert hpm
        rw [mix_all hkl]
        intro hpm
        conv => whnf
        rw [show (decide ((↑k : Int) < (↑(List.map (slC false) n.s).length : Int))) = false from decide_eq_false (by rw [List.length_map]; omega)]
        conv => whnf
        refine .inl ?_
        conv => whnf
        refine InlG.mk (by kernel_rfl) Try.func45 rfl (Nat.le_of_ble_eq_true rfl) (XT.of tabX_ok ?_)
        conv => whnf
        refine .ct ?_
        conv => whnf
        refine CallG.mk (node_X _) rfl ?_
        conv => whnf
        refine bF (by simp [hnb]; done) ?_
        conv => whnf
        refine XT.loop tabX_ok (Y := Nat × List Sl × Int) [6, 7, 13, 14, 15, 16, 17, 18, 19, 20, 21, 22, 23, 24, 25, 26, 27, 28, 29, 30, 31, 32, 33, 34, 35] (fun (k, s, l) => [(13, .p (.v (.int .i64 ((k : Int)))) (nlv _))]) (fun (k, s, l) => [(4, .cells 25 [.row 6, .p (.v (.int .i64 l)) (nlv _), .row 7]), (6, .row 65 4 (s.map (slC true)) (nl_sl _ _))]) (fun (k, s, l) => k ≤ ms.length ∧ sendK n fr (ms.take k) = (s, l) ∧ WayS s ∧ 0 ≤ l ∧ l < 80) (fun (k, s, l) => ms.length - k) (0, n.s, n.l) ⟨Nat.zero_le _, rfl, right_S hr, (right_of hr).l⟩ ?_ ?_
        · skip
          refine ⟨?_, ?_, ?_⟩
          · skip
            repeat ((conv => whnf); first | exact True.intro | refine ⟨.rfl, ?_⟩ | refine ⟨.any, ?_⟩ | refine ⟨.nil, ?_⟩ | refine ⟨.int (by first | rfl | omega | (simp only [wrs]; omega)), ?_⟩ | refine ⟨.int (slw hl (by omega)).symm, ?_⟩ | refine ⟨.int (slw hl (by omega)), ?_⟩)
          · skip
            repeat (first | exact LeVs.nil | ((conv => whnf); first | exact True.intro | exact .none | exact .row rfl | refine .cells ?_ | refine ⟨_, _, rfl, .rfl, ?_⟩ | refine ⟨_, _, rfl, .any, ?_⟩ | refine ⟨_, _, rfl, .nil, ?_⟩ | refine ⟨_, _, rfl, .int (by first | rfl | omega | (simp only [wrs]; omega)), ?_⟩ | refine ⟨_, _, rfl, .int (slw hl (by omega)).symm, ?_⟩ | refine ⟨_, _, rfl, .int (slw hl (by omega)), ?_⟩ | refine ⟨?_, ?_⟩))
          · skip
            repeat (first | exact LeFr.nil | ((conv => whnf); first | exact True.intro | refine ⟨.rfl, ?_⟩ | refine ⟨_, _, rfl, rfl, ?_, ?_⟩))
        · skip
          rintro ⟨k, s, l⟩ ⟨hkm, hsk, hws, hl⟩
          conv => whnf
          cases hc1 : (decide ((↑k : Int) < (↑(List.map (sdC false) ms).length : Int)))
          · skip
            try simp only [bls] at hc1
            conv => whnf
            refine ⟨.inr rfl, ?_⟩
            conv => whnf
            refine ⟨.inr rfl, ?_⟩
            conv => whnf
            refine FinG.mk none ?_ (by rintro _ ⟨⟩)
            simp only [outs, List.length_map, List.length_append, List.length_take, List.length_drop, List.length_cons, List.length_nil, slC, dfC, netX, net0, List.map_nil, mix_len, pkX, slX, sl0, delS]
            rw [List.take_of_length_le (by omega)] at hsk
            rw [hsk]
            simp [fr_sl, fr_df]
          · skip
            try simp only [bls] at hc1
            conv => whnf
            refine IdxG.map _ rfl (by first | omega | (simp only [List.length_map] at *; omega)) ?_; intro m hm hmn; have hmb := hms m (List.mem_of_getElem? hm)
            conv => whnf
            refine ⟨rfl, ?_⟩
            conv => whnf
            refine RegG.par 9 (by kernel_rfl) ?_
            conv => whnf
            refine CallG.mk (packet_X _ _ _ _) rfl ?_
            conv => whnf
            cases hc2 : (pkB fr m.fst m.snd.length)
            · skip
              try simp only [bls] at hc2
              conv => whnf
              refine ⟨(k + 1, s, l), ⟨by omega, send_no1 hsk hm (by simp_all; done), hws, hl⟩, (by show ms.length - (k + 1) < ms.length - k; omega), ?_⟩
              refine ⟨?_, ?_, ?_⟩
              · skip
                repeat ((conv => whnf); first | exact True.intro | refine ⟨.rfl, ?_⟩ | refine ⟨.any, ?_⟩ | refine ⟨.nil, ?_⟩ | refine ⟨.int (by first | rfl | omega | (simp only [wrs]; omega)), ?_⟩ | refine ⟨.int (slw hl (by omega)).symm, ?_⟩ | refine ⟨.int (slw hl (by omega)), ?_⟩)
              · skip
                repeat (first | exact LeVs.nil | ((conv => whnf); first | exact True.intro | exact .none | exact .row rfl | refine .cells ?_ | refine ⟨_, _, rfl, .rfl, ?_⟩ | refine ⟨_, _, rfl, .any, ?_⟩ | refine ⟨_, _, rfl, .nil, ?_⟩ | refine ⟨_, _, rfl, .int (by first | rfl | omega | (simp only [wrs]; omega)), ?_⟩ | refine ⟨_, _, rfl, .int (slw hl (by omega)).symm, ?_⟩ | refine ⟨_, _, rfl, .int (slw hl (by omega)), ?_⟩ | refine ⟨?_, ?_⟩))
              · skip
                repeat (first | exact LeFr.nil | ((conv => whnf); first | exact True.intro | refine ⟨.rfl, ?_⟩ | refine ⟨_, _, rfl, rfl, ?_, ?_⟩))
            · skip
              try simp only [bls] at hc2
              conv => whnf
              refine CallG.mk (hears_Y _ _ _ _ s l n.d fr m.1 m.2 (by omega)) rfl ?_
              conv => whnf
              cases hc3 : (decide ((fr, m.fst) ∈ n.d))
              · skip
                try simp only [bls] at hc3
                conv => whnf
                refine .inl ?_
                conv => whnf
                refine InlG.mk (by kernel_rfl) Try.func49 rfl (Nat.le_of_ble_eq_true rfl) (XT.of tabX_ok ?_)
                conv => whnf
                refine .ct ?_
                conv => whnf
                refine .cl (nl_by1 _) clone_byte rfl (by_len _) (by_one _) (by simp only [List.length_map]; omega) ?_
                conv => whnf
                refine XT.frz 11 ?_
                conv => whnf
                refine XT.loop tabX_ok (Y := Nat) [4, 5, 6, 7, 8, 13, 14, 15, 16, 17, 18, 19, 20, 21, 22, 23, 24, 25, 26, 27, 28, 29, 30, 31, 32, 33, 34, 35, 36, 37, 38, 39, 40, 41, 42, 43, 44, 45, 46, 47, 48, 49, 50, 51] (fun i => [(13, .p (.v (.int .i64 ((i : Int)))) (nlv _))]) (fun i => []) (fun i => i ≤ 80 ∧ ∀ j, j < i → hasS s (slotN l j) = true) (fun i => 80 - i) 0 ⟨by omega, fun j hj => by omega⟩ ?_ ?_
                · skip
                  refine ⟨?_, ?_, ?_⟩
                  · skip
                    repeat ((conv => whnf); first | exact True.intro | refine ⟨.rfl, ?_⟩ | refine ⟨.any, ?_⟩ | refine ⟨.nil, ?_⟩ | refine ⟨.int (by first | rfl | omega | (simp only [wrs]; omega)), ?_⟩)
                  · skip
                    repeat (first | exact LeVs.nil | ((conv => whnf); first | exact True.intro | exact .none | exact .row rfl | refine .cells ?_ | refine ⟨_, _, rfl, .rfl, ?_⟩ | refine ⟨_, _, rfl, .any, ?_⟩ | refine ⟨_, _, rfl, .nil, ?_⟩ | refine ⟨_, _, rfl, .int (by first | rfl | omega | (simp only [wrs]; omega)), ?_⟩ | refine ⟨?_, ?_⟩))
                  · skip
                    repeat (first | exact LeFr.nil | ((conv => whnf); first | exact True.intro | refine ⟨.rfl, ?_⟩ | refine ⟨_, _, rfl, rfl, ?_, ?_⟩))
                · skip
                  rintro i ⟨hi, h2⟩
                  conv => whnf
                  cases hc4 : (decide ((↑i : Int) < 80))
                  · skip
                    try simp only [bls] at hc4
                    conv => whnf
                    refine ⟨.inr rfl, ?_⟩
                    conv => whnf
                    refine ⟨(k + 1, s, l), ⟨by omega, send_f hsk hm (fun j hj => h2 j (by omega)), hws, hl⟩, (by show ms.length - (k + 1) < ms.length - k; omega), ?_⟩
                    refine ⟨?_, ?_, ?_⟩
                    · skip
                      repeat ((conv => whnf); first | exact True.intro | refine ⟨.rfl, ?_⟩ | refine ⟨.any, ?_⟩ | refine ⟨.nil, ?_⟩ | refine ⟨.int (by first | rfl | omega | (simp only [wrs]; omega)), ?_⟩ | refine ⟨.int (slw hl (by omega)).symm, ?_⟩ | refine ⟨.int (slw hl (by omega)), ?_⟩)
                    · skip
                      repeat (first | exact LeVs.nil | ((conv => whnf); first | exact True.intro | exact .none | exact .row rfl | refine .cells ?_ | refine ⟨_, _, rfl, .rfl, ?_⟩ | refine ⟨_, _, rfl, .any, ?_⟩ | refine ⟨_, _, rfl, .nil, ?_⟩ | refine ⟨_, _, rfl, .int (by first | rfl | omega | (simp only [wrs]; omega)), ?_⟩ | refine ⟨_, _, rfl, .int (slw hl (by omega)).symm, ?_⟩ | refine ⟨_, _, rfl, .int (slw hl (by omega)), ?_⟩ | refine ⟨?_, ?_⟩))
                    · skip
                      repeat (first | exact LeFr.nil | ((conv => whnf); first | exact True.intro | refine ⟨.rfl, ?_⟩ | refine ⟨_, _, rfl, rfl, ?_, ?_⟩))
                  · skip
                    try simp only [bls] at hc4
                    conv => whnf
                    refine .ct ?_
                    conv => whnf
                    refine CallG.mk (at_Y _ _ _ ⟨s, l, n.d⟩ (slw hl (by omega)) hws (slotN_way _ _)) rfl ?_
                    conv => whnf
                    refine bS (fun hc5 => ?_) (fun hc5 => ?_)
                    · skip
                      try simp only [bls] at hc5
                      conv => whnf
                      refine RegG.wait 15 1 (by kernel_rfl) ?_
                      refine RegG.wait 15 12 (by kernel_rfl) ?_
                      refine RegG.perm [2,3,4,5,6,7,8,9,10,11,0,1,12,13,14,15,16,17,18] (by kernel_rfl) ?_
                      refine RegG.wr 9 5 45 6 (by kernel_rfl) rfl rfl ?_
                      conv => whnf
                      refine ⟨_, RowOp.ins insC_slot (by kernel_rfl) rfl rfl rfl rfl rfl rfl rfl rfl rfl (by rw [List.length_map]; exact posS_le _ _) (by have h8 := (hws).n; rw [List.length_map]; omega) (sl_one _ _) rfl (els' := (insS s ⟨slotN l i, fr, m.1, m.2⟩).map (slC true)) (ins_map (slw hl (by omega))) (nl_sl _ _), ?_⟩
                      conv => whnf
                      refine ⟨.inr rfl, ?_⟩
                      conv => whnf
                      refine ⟨(k + 1, insS s ⟨slotN l i, fr, m.1, m.2⟩, slotN l i), ⟨by omega, send_t hsk hm (by simp_all; done) (by simp_all; done) (by omega) (by assumption) h2, insS_way hws (slotN_way l i) (by assumption), slotN_way l i⟩, (by show ms.length - (k + 1) < ms.length - k; omega), ?_⟩
                      refine ⟨?_, ?_, ?_⟩
                      · skip
                        repeat ((conv => whnf); first | exact True.intro | refine ⟨.rfl, ?_⟩ | refine ⟨.any, ?_⟩ | refine ⟨.nil, ?_⟩ | refine ⟨.int (by first | rfl | omega | (simp only [wrs]; omega)), ?_⟩ | refine ⟨.int (slw hl (by omega)).symm, ?_⟩ | refine ⟨.int (slw hl (by omega)), ?_⟩)
                      · skip
                        repeat (first | exact LeVs.nil | ((conv => whnf); first | exact True.intro | exact .none | exact .row rfl | refine .cells ?_ | refine ⟨_, _, rfl, .rfl, ?_⟩ | refine ⟨_, _, rfl, .any, ?_⟩ | refine ⟨_, _, rfl, .nil, ?_⟩ | refine ⟨_, _, rfl, .int (by first | rfl | omega | (simp only [wrs]; omega)), ?_⟩ | refine ⟨_, _, rfl, .int (slw hl (by omega)).symm, ?_⟩ | refine ⟨_, _, rfl, .int (slw hl (by omega)), ?_⟩ | refine ⟨?_, ?_⟩))
                      · skip
                        repeat (first | exact LeFr.nil | ((conv => whnf); first | exact True.intro | refine ⟨.rfl, ?_⟩ | refine ⟨_, _, rfl, rfl, ?_, ?_⟩))
                    · skip
                      try simp only [bls] at hc5
                      conv => whnf
                      refine ⟨(i + 1), ⟨by omega, fun j hj => by rcases Nat.lt_or_ge j i with h8 | h8; exact h2 j h8; obtain rfl : j = i := (by omega); assumption⟩, (by omega), ?_⟩
                      refine ⟨?_, ?_, ?_⟩
                      · skip
                        repeat ((conv => whnf); first | exact True.intro | refine ⟨.rfl, ?_⟩ | refine ⟨.any, ?_⟩ | refine ⟨.nil, ?_⟩ | refine ⟨.int (by first | rfl | omega | (simp only [wrs]; omega)), ?_⟩)
                      · skip
                        repeat (first | exact LeVs.nil | ((conv => whnf); first | exact True.intro | exact .none | exact .row rfl | refine .cells ?_ | refine ⟨_, _, rfl, .rfl, ?_⟩ | refine ⟨_, _, rfl, .any, ?_⟩ | refine ⟨_, _, rfl, .nil, ?_⟩ | refine ⟨_, _, rfl, .int (by first | rfl | omega | (simp only [wrs]; omega)), ?_⟩ | refine ⟨?_, ?_⟩))
                      · skip
                        repeat (first | exact LeFr.nil | ((conv => whnf); first | exact True.intro | refine ⟨.rfl, ?_⟩ | refine ⟨_, _, rfl, rfl, ?_, ?_⟩))
              · skip
                try simp only [bls] at hc3
                conv => whnf
                refine ⟨(k + 1, s, l), ⟨by omega, send_no2 hsk hm (by simp_all; done), hws, hl⟩, (by show ms.length - (k + 1) < ms.length - k; omega), ?_⟩
                refine ⟨?_, ?_, ?_⟩
                · skip
                  repeat ((conv => whnf); first | exact True.intro | refine ⟨.rfl, ?_⟩ | refine ⟨.any, ?_⟩ | refine ⟨.nil, ?_⟩ | refine ⟨.int (by first | rfl | omega | (simp only [wrs]; omega)), ?_⟩ | refine ⟨.int (slw hl (by omega)).symm, ?_⟩ | refine ⟨.int (slw hl (by omega)), ?_⟩)
                · skip
                  repeat (first | exact LeVs.nil | ((conv => whnf); first | exact True.intro | exact .none | exact .row rfl | refine .cells ?_ | refine ⟨_, _, rfl, .rfl, ?_⟩ | refine ⟨_, _, rfl, .any, ?_⟩ | refine ⟨_, _, rfl, .nil, ?_⟩ | refine ⟨_, _, rfl, .int (by first | rfl | omega | (simp only [wrs]; omega)), ?_⟩ | refine ⟨_, _, rfl, .int (slw hl (by omega)).symm, ?_⟩ | refine ⟨_, _, rfl, .int (slw hl (by omega)), ?_⟩ | refine ⟨?_, ?_⟩))
                · skip
                  repeat (first | exact LeFr.nil | ((conv => whnf); first | exact True.intro | refine ⟨.rfl, ?_⟩ | refine ⟨_, _, rfl, rfl, ?_, ?_⟩))
end Go.Proofs.Ytmhmldpccccjbaa
