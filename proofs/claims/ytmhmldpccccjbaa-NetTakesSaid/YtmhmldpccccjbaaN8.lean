/- What is meant, delivered, lost and doubled: the law's walk. No condition. -/
import Derived.Test.YtmhmldpccccjbaaN6
import Derived.Test.YtmhmldpccccjbaaNW
import Derived.Test.YtmhmldpccccjbaaNX
namespace Go.Proofs.Ytmhmldpccccjbaa
open Go.RowKit
set_option linter.unusedVariables false
set_option linter.unusedSimpArgs false
set_option maxRecDepth 20000
set_option maxRecDepth 20000 in
theorem full_X (b c e : Bool) (n : NetA) : XMeets Try.prog 35 [netT b c e n] (.p (.v (.bool (decide (n.s.length = 80)))) (nlv _)) := by
  refine XMeets.of_X tabX_ok (avs := [.ag [.p (.sl false (n.s.map (slC false))) (nl_sl _ _).sl, .p (.v (.int .i64 n.l)) (nlv _), .p (.sl false (n.d.map dfC)) (nl_df _).sl]]) [(0, .ag [.p (.sl false (n.s.map (slC false))) (nl_sl _ _).sl, .p (.v (.int .i64 n.l)) (nlv _), .p (.sl false (n.d.map dfC)) (nl_df _).sl])] (by kernel_rfl) Try.func35 rfl (by simp [PuL, Pu, netT, slC, dfC, sdC, pu_by1, pu_sl, pu_df, pu_sd]) (by simp only [untagL, untag, netT, untag_by1, untag_sl, untag_df, untag_sd]; rfl) rfl rfl ?_
  intro B w0
  conv => whnf
  refine FinG.mk none ?_ (by rintro _ ⟨⟩)
  simp only [outs, List.length_map, List.length_append, List.length_take, List.length_drop, List.length_cons, List.length_nil, slC, dfC, netX, net0, List.map_nil, mix_len, pkX, slX, sl0, delS]
  congr 1
  rw [decide_eq_decide]
  omega
theorem del_sz {n : NetA} (h : n.Sz) (k : Nat) : (⟨delS n.s k, n.l, n.d⟩ : NetA).Sz := ⟨by have := (delS_sub n.s k).length_le; have := h.s; show (delS n.s k).length ≤ _; omega, h.d, fun y hy => h.b y ((delS_sub n.s k).subset hy)⟩
theorem insS_sz {n : NetA} (h : n.Sz) (hn : n.s.length ≤ 1000) {x : Sl} (hx : x.b.length ≤ 100000) (l : Int) : (⟨insS n.s x, l, n.d⟩ : NetA).Sz := ⟨by show (insS n.s x).length ≤ _; unfold insS; simp only [List.length_append, List.length_take, List.length_drop, List.length_cons, List.length_nil]; omega, h.d, fun y hy => by
  rcases insS_mem.1 hy with rfl | hy
  · exact hx
  · exact h.b y hy⟩
theorem first_eq {s : List Sl} {l : Int} {i j : Nat} (h1 : hasS s (slotN l i) = false) (h2 : ∀ q, q < i → hasS s (slotN l q) = true) (h3 : hasS s (slotN l j) = false) (h4 : ∀ q, q < j → hasS s (slotN l q) = true) : i = j := by
  rcases Nat.lt_trichotomy i j with h | h | h
  · rw [h4 i h] at h1; cases h1
  · exact h
  · rw [h2 j h] at h3; cases h3
theorem takes_cases (n : NetA) (p : Int) : (rightB n = false ∧ meantN n p = (sl0, (330 : Int)) ∧ delivN n p = (net0, sl0, (330 : Int)) ∧ loseN n p = (net0, (330 : Int)) ∧ doubN n p = (net0, (330 : Int))) ∨
    (rightB n = true ∧ p < 0 ∧ meantN n p = (sl0, (2 : Int)) ∧ delivN n p = (net0, sl0, (2 : Int)) ∧ loseN n p = (net0, (2 : Int)) ∧ doubN n p = (net0, (2 : Int))) ∨
    (rightB n = true ∧ 0 ≤ p ∧ n.s = [] ∧ meantN n p = (sl0, (4 : Int)) ∧ delivN n p = (net0, sl0, (4 : Int)) ∧ loseN n p = (net0, (4 : Int)) ∧ doubN n p = (net0, (4 : Int))) ∨
    (rightB n = true ∧ 0 ≤ p ∧ ∃ (k : Nat) (x : Sl), n.s[k]? = some x ∧ mtK n.s p = ((k : Int), 0) ∧ n.s ≠ [] ∧ meantN n p = (x, (0 : Int)) ∧ loseN n p = (⟨delS n.s k, n.l, n.d⟩, (0 : Int)) ∧
      (((x.f, x.t) ∈ n.d ∧ delivN n p = (net0, sl0, (331 : Int))) ∨ ((x.f, x.t) ∉ n.d ∧ delivN n p = (⟨delS n.s k, n.l, n.d⟩, x, (0 : Int)))) ∧
      ((n.s.length = 80 ∧ doubN n p = (net0, (6 : Int))) ∨ (¬ n.s.length = 80 ∧ ∃ i, i < 80 ∧ hasS n.s (slotN n.l i) = false ∧ (∀ j, j < i → hasS n.s (slotN n.l j) = true) ∧ doubN n p = (⟨insS n.s ⟨slotN n.l i, x.f, x.t, x.b⟩, slotN n.l i, n.d⟩, (0 : Int))))) := by
  cases hr : rightB n with
  | false => exact .inl ⟨rfl, by simp [meantN, hr], by simp [delivN, hr], by simp [loseN, hr], by simp [doubN, hr]⟩
  | true =>
    refine .inr ?_
    rcases mt_cases hr p with ⟨h1, h2⟩ | ⟨h1, h3, h2⟩ | ⟨h1, k, x, hx, h2⟩
    · exact .inl ⟨rfl, h1, by simp [meantN, hr, h2], by simp [delivN, hr, h2], by simp [loseN, hr, h2], by simp [doubN, hr, h2]⟩
    · exact .inr (.inl ⟨rfl, h1, h3, by simp [meantN, hr, h2], by simp [delivN, hr, h2], by simp [loseN, hr, h2], by simp [doubN, hr, h2]⟩)
    · refine .inr (.inr ⟨rfl, h1, k, x, hx, h2, fun e => by rw [e] at hx; simp at hx, by simp [meantN, hr, h2, slotAt, hx], by simp [loseN, hr, h2], ?_, ?_⟩)
      · by_cases hm : (x.f, x.t) ∈ n.d
        · exact .inl ⟨hm, by simp [delivN, hr, h2, slotAt, hx, hm]⟩
        · exact .inr ⟨hm, by simp [delivN, hr, h2, slotAt, hx, hm]⟩
      · have hdb : doubN n p = doubX n x := by simp [doubN, hr, h2, slotAt, hx]
        by_cases hf : n.s.length = 80
        · exact .inl ⟨hf, by rw [hdb, doub_full (right_S hr) hf]⟩
        · obtain ⟨i, hi, h4, h5⟩ := free_some (right_S hr) n.l hf
          exact .inr ⟨hf, i, hi, h4, h5, by rw [hdb, doub_free hi h4 h5]⟩
theorem lose_err (n : NetA) (p : Int) : (loseN n p).2 = (meantN n p).2 := by
  rcases takes_cases n p with ⟨_, h1, h2, h3, h4⟩ | ⟨_, _, h1, h2, h3, h4⟩ | ⟨_, _, _, h1, h2, h3, h4⟩ | ⟨_, _, k, x, hx, _, _, h1, h3, _⟩ <;> rw [h1, h3]
theorem takes_sz {n : NetA} (ho : n.Ok) (p : Int) : (delivN n p).1.Sz ∧ (loseN n p).1.Sz ∧ (doubN n p).1.Sz ∧ (meantN n p).1.b.length ≤ 100000 ∧ (delivN n p).2.1.b.length ≤ 100000 := by
  have hz := ho.sz
  have hsn := ho.sn
  have h0 : sl0.b.length ≤ 100000 := by simp [sl0]
  rcases takes_cases n p with ⟨_, h1, h2, h3, h4⟩ | ⟨_, _, h1, h2, h3, h4⟩ | ⟨_, _, _, h1, h2, h3, h4⟩ | ⟨_, _, k, x, hx, _, _, h1, h3, ⟨_, h2⟩ | ⟨_, h2⟩, ⟨_, h4⟩ | ⟨_, i, _, _, _, h4⟩⟩ <;> rw [h1, h2, h3, h4]
  · exact ⟨net0_sz, net0_sz, net0_sz, h0, h0⟩
  · exact ⟨net0_sz, net0_sz, net0_sz, h0, h0⟩
  · exact ⟨net0_sz, net0_sz, net0_sz, h0, h0⟩
  · exact ⟨net0_sz, del_sz hz k, net0_sz, hz.b x (List.mem_of_getElem? hx), h0⟩
  · exact ⟨net0_sz, del_sz hz k, insS_sz (x := ⟨slotN n.l i, x.f, x.t, x.b⟩) hz hsn (hz.b x (List.mem_of_getElem? hx)) _, hz.b x (List.mem_of_getElem? hx), h0⟩
  · exact ⟨del_sz hz k, del_sz hz k, net0_sz, hz.b x (List.mem_of_getElem? hx), hz.b x (List.mem_of_getElem? hx)⟩
  · exact ⟨del_sz hz k, del_sz hz k, insS_sz (x := ⟨slotN n.l i, x.f, x.t, x.b⟩) hz hsn (hz.b x (List.mem_of_getElem? hx)) _, hz.b x (List.mem_of_getElem? hx), hz.b x (List.mem_of_getElem? hx)⟩
set_option maxHeartbeats 4000000 in
set_option maxRecDepth 20000 in
theorem takes_X (b c e b2 c2 e2 : Bool) (n : NetA) (p : Int) (ho : n.Ok) (hp0 : I64 p) : XMeets Try.prog 11 [netT b c e n, netT b2 c2 e2 n, .v (.int .i64 p)] (.p (.v (.bool (true))) (nlv _)) := by
  refine XMeets.of_XM [(1, .row 0)] tabX_ok (avs := [.ag [.p (.sl false (n.s.map (slC false))) (nl_sl _ _).sl, .p (.v (.int .i64 n.l)) (nlv _), .p (.sl false (n.d.map dfC)) (nl_df _).sl], .ag [.p (.sl false (n.s.map (slC false))) (nl_sl _ _).sl, .p (.v (.int .i64 n.l)) (nlv _), .p (.sl false (n.d.map dfC)) (nl_df _).sl], .p (.v (.int .i64 p)) (nlv _)]) [(0, .ag [.p (.sl false (n.s.map (slC false))) (nl_sl _ _).sl, .p (.v (.int .i64 n.l)) (nlv _), .p (.sl false (n.d.map dfC)) (nl_df _).sl]), (1, .ag [.p (.sl false (n.s.map (slC false))) (nl_sl _ _).sl, .p (.v (.int .i64 n.l)) (nlv _), .p (.sl false (n.d.map dfC)) (nl_df _).sl]), (2, .p (.v (.int .i64 p)) (nlv _))] (by kernel_rfl) Try.func11 rfl (by simp [PuL, Pu, netT, slC, dfC, sdC, pu_by1, pu_sl, pu_df, pu_sd]) (by simp only [untagL, untag, netT, untag_by1, untag_sl, untag_df, untag_sd]; rfl) rfl rfl ?_
  intro B w0
  have hsn := ho.sn
  have hdn := ho.dn
  have hsz := ho.sz
  have hp1 := hp0.2
  obtain ⟨RM, hM⟩ : ∃ R, R = meantN n p := ⟨_, rfl⟩
  obtain ⟨RD, hD⟩ : ∃ R, R = delivN n p := ⟨_, rfl⟩
  obtain ⟨RL, hL⟩ : ∃ R, R = loseN n p := ⟨_, rfl⟩
  obtain ⟨RB, hB⟩ : ∃ R, R = doubN n p := ⟨_, rfl⟩
  obtain ⟨hzD, hzL, hzB, hzm, hzp⟩ := takes_sz ho p
  rw [← hD] at hzD hzp
  rw [← hL] at hzL
  rw [← hB] at hzB
  rw [← hM] at hzm
  have hLM : RL.2 = RM.2 := by rw [hL, hM]; exact lose_err n p
  conv => whnf
  refine XT.markM [(0, [(6, .p (.v (.bool true)) (nlv _)), (15, .p (.v (.bool true)) (nlv _))])] rfl tabX_ok 14 [3, 4] ?_
  intro M w1 us
  refine ⟨[(3, .pin (us 3) (.eptr [.sl false (n.s.map (slC false)), .v (.int .i64 n.l), .sl false (n.d.map dfC)]) ((nl_net n).eptr)), (4, .pin (us 4) (.eptr [.sl false (n.s.map (slC false)), .v (.int .i64 n.l), .sl false (n.d.map dfC)]) ((nl_net n).eptr))], ?_, ?_⟩
  · skip
    refine ⟨.pin rfl rfl (by simp [Pu, PuL, dfC, pu_sl, pu_df, pu_by1, pu_sd]) (by simp only [untag, untagL, dfC, untag_sl, untag_df, untag_by1, untag_sd]), ?_⟩
    refine ⟨.pin rfl rfl (by simp [Pu, PuL, dfC, pu_sl, pu_df, pu_by1, pu_sd]) (by simp only [untag, untagL, dfC, untag_sl, untag_df, untag_by1, untag_sd]), ?_⟩
    exact True.intro
  · skip
    intro hpins
    obtain ⟨hp3, hp4, -⟩ : PinOk M w1 (us 3) (.eptr [.sl false (n.s.map (slC false)), .v (.int .i64 n.l), .sl false (n.d.map dfC)]) ∧ PinOk M w1 (us 4) (.eptr [.sl false (n.s.map (slC false)), .v (.int .i64 n.l), .sl false (n.d.map dfC)]) ∧ True := hpins
    conv => whnf
    refine ⟨by assumption, ?_⟩
    conv => whnf
    refine .ct ?_
    conv => whnf
    refine CallG.mk (meantX_X _ _ _ n p ho hp1 _ hM) rfl ?_
    conv => whnf
    refine ⟨by assumption, ?_⟩
    conv => whnf
    refine .ct ?_
    conv => whnf
    refine CallG.mk (deliver_X _ _ _ n p ho hp1 _ hD) rfl ?_
    conv => whnf
    refine ⟨by assumption, ?_⟩
    conv => whnf
    refine .ct ?_
    conv => whnf
    refine CallG.mk (lose_X _ _ _ n p ho hp1 _ hL) rfl ?_
    conv => whnf
    refine ⟨by assumption, ?_⟩
    conv => whnf
    refine .ct ?_
    conv => whnf
    refine CallG.mk (double_X _ _ _ n p ho hp1 _ hB) rfl ?_
    conv => whnf
    refine XT.cut tabX_ok (Y := Unit) [16, 53, 54, 55, 56, 57, 58, 59, 60, 61, 62, 63, 64] (fun _ => [(16, .p (.v (.int .i64 (RM.2))) (nlv _))]) (fun _ => []) (fun _ => True) ?_ ?_
    · skip
      rcases takes_cases n p with ⟨hr, h1, h2, h3, h4⟩ | ⟨hr, hp, h1, h2, h3, h4⟩ | ⟨hr, hp, hs, h1, h2, h3, h4⟩ | ⟨hr, hp, k0, x, hx, hK, hS, h1, h3, _⟩
      · skip
        obtain rfl := hM.trans h1
        obtain rfl := hD.trans h2
        obtain rfl := hL.trans h3
        obtain rfl := hB.trans h4
        conv => whnf
        refine XT.pass tabX_ok ?_
        conv => whnf
        refine ⟨by assumption, ?_⟩
        conv => whnf
        refine .ct ?_
        conv => whnf
        refine CallG.mk (right_X _ _ _ n ho) rfl ?_
        conv => whnf
        refine bT (by rw [hr]; rfl) ?_
        conv => whnf
        refine ⟨(), trivial, [], ?_⟩
        refine ⟨?_, ?_, ?_⟩
        · skip
          refine leEnv_app (by kernel_rfl) (by kernel_rfl) ?_
          repeat ((conv => whnf); first | exact True.intro | refine ⟨.rfl, ?_⟩ | refine ⟨.any, ?_⟩ | refine ⟨.nil, ?_⟩ | refine ⟨.int (by first | rfl | omega | (simp only [wrs]; omega)), ?_⟩ | refine ⟨.int (by rfl), ?_⟩)
        · skip
          repeat (first | exact LeVs.nil | ((conv => whnf); first | exact True.intro | exact .none | exact .row rfl | refine .cells ?_ | refine ⟨_, _, rfl, .rfl, ?_⟩ | refine ⟨_, _, rfl, .any, ?_⟩ | refine ⟨_, _, rfl, .nil, ?_⟩ | refine ⟨_, _, rfl, .int (by first | rfl | omega | (simp only [wrs]; omega)), ?_⟩ | refine ⟨_, _, rfl, .int (by rfl), ?_⟩ | refine ⟨?_, ?_⟩))
          done
        · skip
          exact LeFr.same (by kernel_rfl)
      · skip
        obtain rfl := hM.trans h1
        obtain rfl := hD.trans h2
        obtain rfl := hL.trans h3
        obtain rfl := hB.trans h4
        conv => whnf
        refine XT.pass tabX_ok ?_
        conv => whnf
        refine ⟨by assumption, ?_⟩
        conv => whnf
        refine .ct ?_
        conv => whnf
        refine CallG.mk (right_X _ _ _ n ho) rfl ?_
        conv => whnf
        refine bF (by rw [hr]; rfl) ?_
        conv => whnf
        refine bT (decide_eq_true (by omega)) ?_
        conv => whnf
        refine ⟨(), trivial, [], ?_⟩
        refine ⟨?_, ?_, ?_⟩
        · skip
          refine leEnv_app (by kernel_rfl) (by kernel_rfl) ?_
          repeat ((conv => whnf); first | exact True.intro | refine ⟨.rfl, ?_⟩ | refine ⟨.any, ?_⟩ | refine ⟨.nil, ?_⟩ | refine ⟨.int (by first | rfl | omega | (simp only [wrs]; omega)), ?_⟩ | refine ⟨.int (by rfl), ?_⟩)
        · skip
          repeat (first | exact LeVs.nil | ((conv => whnf); first | exact True.intro | exact .none | exact .row rfl | refine .cells ?_ | refine ⟨_, _, rfl, .rfl, ?_⟩ | refine ⟨_, _, rfl, .any, ?_⟩ | refine ⟨_, _, rfl, .nil, ?_⟩ | refine ⟨_, _, rfl, .int (by first | rfl | omega | (simp only [wrs]; omega)), ?_⟩ | refine ⟨_, _, rfl, .int (by rfl), ?_⟩ | refine ⟨?_, ?_⟩))
          done
        · skip
          exact LeFr.same (by kernel_rfl)
      · skip
        obtain rfl := hM.trans h1
        obtain rfl := hD.trans h2
        obtain rfl := hL.trans h3
        obtain rfl := hB.trans h4
        conv => whnf
        refine XT.pass tabX_ok ?_
        conv => whnf
        refine ⟨by assumption, ?_⟩
        conv => whnf
        refine .ct ?_
        conv => whnf
        refine CallG.mk (right_X _ _ _ n ho) rfl ?_
        conv => whnf
        refine bF (by rw [hr]; rfl) ?_
        conv => whnf
        refine bF (decide_eq_false (by omega)) ?_
        conv => whnf
        refine ⟨by assumption, ?_⟩
        conv => whnf
        refine bT (decide_eq_true (by simp [hs])) ?_
        conv => whnf
        refine ⟨(), trivial, [], ?_⟩
        refine ⟨?_, ?_, ?_⟩
        · skip
          refine leEnv_app (by kernel_rfl) (by kernel_rfl) ?_
          repeat ((conv => whnf); first | exact True.intro | refine ⟨.rfl, ?_⟩ | refine ⟨.any, ?_⟩ | refine ⟨.nil, ?_⟩ | refine ⟨.int (by first | rfl | omega | (simp only [wrs]; omega)), ?_⟩ | refine ⟨.int (by rfl), ?_⟩)
        · skip
          repeat (first | exact LeVs.nil | ((conv => whnf); first | exact True.intro | exact .none | exact .row rfl | refine .cells ?_ | refine ⟨_, _, rfl, .rfl, ?_⟩ | refine ⟨_, _, rfl, .any, ?_⟩ | refine ⟨_, _, rfl, .nil, ?_⟩ | refine ⟨_, _, rfl, .int (by first | rfl | omega | (simp only [wrs]; omega)), ?_⟩ | refine ⟨_, _, rfl, .int (by rfl), ?_⟩ | refine ⟨?_, ?_⟩))
          done
        · skip
          exact LeFr.same (by kernel_rfl)
      · skip
        have hxb := hsz.b x (List.mem_of_getElem? hx)
        have hsl := right_S hr
        have hrl := (right_of hr).l
        obtain rfl := hM.trans h1
        conv => whnf
        refine XT.pass tabX_ok ?_
        conv => whnf
        refine ⟨by assumption, ?_⟩
        conv => whnf
        refine .ct ?_
        conv => whnf
        refine CallG.mk (right_X _ _ _ n ho) rfl ?_
        conv => whnf
        refine bF (by rw [hr]; rfl) ?_
        conv => whnf
        refine bF (decide_eq_false (by omega)) ?_
        conv => whnf
        refine ⟨by assumption, ?_⟩
        conv => whnf
        refine bF (decide_eq_false (by have := slot_lt hx; simp only [List.length_map]; omega)) ?_
        conv => whnf
        refine ⟨(), trivial, [], ?_⟩
        refine ⟨?_, ?_, ?_⟩
        · skip
          refine leEnv_app (by kernel_rfl) (by kernel_rfl) ?_
          repeat ((conv => whnf); first | exact True.intro | refine ⟨.rfl, ?_⟩ | refine ⟨.any, ?_⟩ | refine ⟨.nil, ?_⟩ | refine ⟨.int (by first | rfl | omega | (simp only [wrs]; omega)), ?_⟩ | refine ⟨.int (by rfl), ?_⟩)
        · skip
          repeat (first | exact LeVs.nil | ((conv => whnf); first | exact True.intro | exact .none | exact .row rfl | refine .cells ?_ | refine ⟨_, _, rfl, .rfl, ?_⟩ | refine ⟨_, _, rfl, .any, ?_⟩ | refine ⟨_, _, rfl, .nil, ?_⟩ | refine ⟨_, _, rfl, .int (by first | rfl | omega | (simp only [wrs]; omega)), ?_⟩ | refine ⟨_, _, rfl, .int (by rfl), ?_⟩ | refine ⟨?_, ?_⟩))
          done
        · skip
          exact LeFr.same (by kernel_rfl)
    · skip
      rintro ⟨⟩ -
      conv => whnf
      refine XT.cut tabX_ok (Y := Bool × Bool × (Bool × Bool × Bool) × (Bool × Bool × Bool) × (Bool × Bool × Bool)) [17, 18, 67, 68, 69, 70, 71, 72, 73, 74, 75, 76, 77, 78, 79, 80, 81, 82, 83, 84, 85, 86, 87, 88, 89, 90, 91, 92, 93, 94, 95, 96, 97] (fun y => [(17, .p (.v (.int .i64 (RD.2.2))) (nlv _)), (18, .p (.v (.int .i64 (RB.2))) (nlv _))]) (fun y => [(5, .cells 65 (sCX y.1 RM.1)), (6, .cells 65 (sCX y.2.1 ⟨0, RD.2.1.f, RD.2.1.t, RD.2.1.b⟩)), (7, .cells 25 (nCX y.2.2.1 RD.1)), (8, .cells 25 (nCX y.2.2.2.1 RL.1)), (9, .cells 25 (nCX y.2.2.2.2 RB.1))]) (fun y => True) ?_ ?_
      · skip
        rcases takes_cases n p with ⟨hr, h1, h2, h3, h4⟩ | ⟨hr, hp, h1, h2, h3, h4⟩ | ⟨hr, hp, hs, h1, h2, h3, h4⟩ | ⟨hr, hp, k0, x, hx, hK, hS, h1, h3, ⟨hm, h2⟩ | ⟨hm, h2⟩, ⟨hf, h4⟩ | ⟨hf, i0, hi0, hi1, hi2, h4⟩⟩
        · skip
          obtain rfl := hM.trans h1
          obtain rfl := hD.trans h2
          obtain rfl := hL.trans h3
          obtain rfl := hB.trans h4
          conv => whnf
          refine XT.pass tabX_ok ?_
          conv => whnf
          refine ⟨(true, true, (true, true, true), (true, true, true), (true, true, true)), trivial, [], ?_⟩
          refine ⟨?_, ?_, ?_⟩
          · skip
            refine leEnv_app (by kernel_rfl) (by kernel_rfl) ?_
            repeat ((conv => whnf); first | exact True.intro | refine ⟨.rfl, ?_⟩ | refine ⟨.any, ?_⟩ | refine ⟨.nil, ?_⟩ | refine ⟨.int (by first | rfl | omega | (simp only [wrs]; omega)), ?_⟩ | refine ⟨.int (by rfl), ?_⟩ | refine ⟨.tv (by rw [with_del hsl hx]), ?_⟩ | refine ⟨.tv (by rw [lastI_s hrl (by omega), with_ins hsl (slotN_way _ _) hi1]), ?_⟩ | refine ⟨.int (lastI_s hrl (by omega)), ?_⟩)
          · skip
            repeat (first | exact LeVs.nil | ((conv => whnf); first | exact True.intro | exact .none | exact .row rfl | refine .cells ?_ | refine ⟨_, _, rfl, .rfl, ?_⟩ | refine ⟨_, _, rfl, .any, ?_⟩ | refine ⟨_, _, rfl, .nil, ?_⟩ | refine ⟨_, _, rfl, .int (by first | rfl | omega | (simp only [wrs]; omega)), ?_⟩ | refine ⟨_, _, rfl, .int (by rfl), ?_⟩ | refine ⟨_, _, rfl, .tv (by rw [with_del hsl hx]), ?_⟩ | refine ⟨_, _, rfl, .tv (by rw [lastI_s hrl (by omega), with_ins hsl (slotN_way _ _) hi1]), ?_⟩ | refine ⟨_, _, rfl, .int (lastI_s hrl (by omega)), ?_⟩ | refine ⟨?_, ?_⟩))
            done
          · skip
            exact LeFr.same (by kernel_rfl)
        · skip
          obtain rfl := hM.trans h1
          obtain rfl := hD.trans h2
          obtain rfl := hL.trans h3
          obtain rfl := hB.trans h4
          conv => whnf
          refine XT.pass tabX_ok ?_
          conv => whnf
          refine ⟨(true, true, (true, true, true), (true, true, true), (true, true, true)), trivial, [], ?_⟩
          refine ⟨?_, ?_, ?_⟩
          · skip
            refine leEnv_app (by kernel_rfl) (by kernel_rfl) ?_
            repeat ((conv => whnf); first | exact True.intro | refine ⟨.rfl, ?_⟩ | refine ⟨.any, ?_⟩ | refine ⟨.nil, ?_⟩ | refine ⟨.int (by first | rfl | omega | (simp only [wrs]; omega)), ?_⟩ | refine ⟨.int (by rfl), ?_⟩ | refine ⟨.tv (by rw [with_del hsl hx]), ?_⟩ | refine ⟨.tv (by rw [lastI_s hrl (by omega), with_ins hsl (slotN_way _ _) hi1]), ?_⟩ | refine ⟨.int (lastI_s hrl (by omega)), ?_⟩)
          · skip
            repeat (first | exact LeVs.nil | ((conv => whnf); first | exact True.intro | exact .none | exact .row rfl | refine .cells ?_ | refine ⟨_, _, rfl, .rfl, ?_⟩ | refine ⟨_, _, rfl, .any, ?_⟩ | refine ⟨_, _, rfl, .nil, ?_⟩ | refine ⟨_, _, rfl, .int (by first | rfl | omega | (simp only [wrs]; omega)), ?_⟩ | refine ⟨_, _, rfl, .int (by rfl), ?_⟩ | refine ⟨_, _, rfl, .tv (by rw [with_del hsl hx]), ?_⟩ | refine ⟨_, _, rfl, .tv (by rw [lastI_s hrl (by omega), with_ins hsl (slotN_way _ _) hi1]), ?_⟩ | refine ⟨_, _, rfl, .int (lastI_s hrl (by omega)), ?_⟩ | refine ⟨?_, ?_⟩))
            done
          · skip
            exact LeFr.same (by kernel_rfl)
        · skip
          obtain rfl := hM.trans h1
          obtain rfl := hD.trans h2
          obtain rfl := hL.trans h3
          obtain rfl := hB.trans h4
          conv => whnf
          refine XT.pass tabX_ok ?_
          conv => whnf
          refine ⟨(true, true, (true, true, true), (true, true, true), (true, true, true)), trivial, [], ?_⟩
          refine ⟨?_, ?_, ?_⟩
          · skip
            refine leEnv_app (by kernel_rfl) (by kernel_rfl) ?_
            repeat ((conv => whnf); first | exact True.intro | refine ⟨.rfl, ?_⟩ | refine ⟨.any, ?_⟩ | refine ⟨.nil, ?_⟩ | refine ⟨.int (by first | rfl | omega | (simp only [wrs]; omega)), ?_⟩ | refine ⟨.int (by rfl), ?_⟩ | refine ⟨.tv (by rw [with_del hsl hx]), ?_⟩ | refine ⟨.tv (by rw [lastI_s hrl (by omega), with_ins hsl (slotN_way _ _) hi1]), ?_⟩ | refine ⟨.int (lastI_s hrl (by omega)), ?_⟩)
          · skip
            repeat (first | exact LeVs.nil | ((conv => whnf); first | exact True.intro | exact .none | exact .row rfl | refine .cells ?_ | refine ⟨_, _, rfl, .rfl, ?_⟩ | refine ⟨_, _, rfl, .any, ?_⟩ | refine ⟨_, _, rfl, .nil, ?_⟩ | refine ⟨_, _, rfl, .int (by first | rfl | omega | (simp only [wrs]; omega)), ?_⟩ | refine ⟨_, _, rfl, .int (by rfl), ?_⟩ | refine ⟨_, _, rfl, .tv (by rw [with_del hsl hx]), ?_⟩ | refine ⟨_, _, rfl, .tv (by rw [lastI_s hrl (by omega), with_ins hsl (slotN_way _ _) hi1]), ?_⟩ | refine ⟨_, _, rfl, .int (lastI_s hrl (by omega)), ?_⟩ | refine ⟨?_, ?_⟩))
            done
          · skip
            exact LeFr.same (by kernel_rfl)
        · skip
          have hxb := hsz.b x (List.mem_of_getElem? hx)
          have hsl := right_S hr
          have hrl := (right_of hr).l
          obtain rfl := hM.trans h1
          obtain rfl := hD.trans h2
          obtain rfl := hL.trans h3
          obtain rfl := hB.trans h4
          conv => whnf
          refine XT.pass tabX_ok ?_
          conv => whnf
          refine ⟨by assumption, ?_⟩
          conv => whnf
          refine .inl ?_
          conv => whnf
          refine InlG.mk (by kernel_rfl) Try.func33 rfl (Nat.le_of_ble_eq_true rfl) (XT.of tabX_ok ?_)
          conv => whnf
          refine XT.tidy ?_
          conv => whnf
          refine XT.loop tabX_ok (Y := Nat) [5, 6, 7, 10, 11, 12, 13, 14, 15, 16, 17, 18, 19, 20, 21, 22, 23, 24, 25] (fun i => [(5, .p (.v (.int .i64 (mtN p i))) (nlv _)), (10, .p (.v (.int .i64 ((i : Int)))) (nlv _))]) (fun i => []) (fun i => i ≤ 80 ∧ ∀ j, j < i → hasS n.s (mtN p j) = false) (fun i => 80 - i) 0 ⟨by omega, fun j hj => by omega⟩ ?_ ?_
          · skip
            refine ⟨?_, ?_, ?_⟩
            · skip
              refine leEnv_app (by kernel_rfl) (by kernel_rfl) ?_
              repeat ((conv => whnf); first | exact True.intro | refine ⟨.rfl, ?_⟩ | refine ⟨.any, ?_⟩ | refine ⟨.nil, ?_⟩ | refine ⟨.int (by first | rfl | omega | (simp only [wrs]; omega)), ?_⟩ | refine ⟨.int (meant_0 hp), ?_⟩ | refine ⟨.int (meant_0 hp).symm, ?_⟩ | refine ⟨.int meant_s, ?_⟩ | refine ⟨.int meant_s.symm, ?_⟩)
            · skip
              repeat (first | exact LeVs.nil | ((conv => whnf); first | exact True.intro | exact .none | exact .row rfl | refine .cells ?_ | refine ⟨_, _, rfl, .rfl, ?_⟩ | refine ⟨_, _, rfl, .any, ?_⟩ | refine ⟨_, _, rfl, .nil, ?_⟩ | refine ⟨_, _, rfl, .int (by first | rfl | omega | (simp only [wrs]; omega)), ?_⟩ | refine ⟨_, _, rfl, .int (meant_0 hp), ?_⟩ | refine ⟨_, _, rfl, .int (meant_0 hp).symm, ?_⟩ | refine ⟨_, _, rfl, .int meant_s, ?_⟩ | refine ⟨_, _, rfl, .int meant_s.symm, ?_⟩ | refine ⟨?_, ?_⟩))
              done
            · skip
              exact LeFr.same (by kernel_rfl)
          · skip
            rintro i ⟨hi, h2⟩
            rcases Nat.lt_or_ge i 80 with hi8 | hi8
            · skip
              conv => whnf
              refine bT (decide_eq_true (by omega)) ?_
              conv => whnf
              refine .inl ?_
              conv => whnf
              refine InlG.mk (by kernel_rfl) Try.func60 rfl (Nat.le_of_ble_eq_true rfl) (XT.of tabX_ok ?_)
              conv => whnf
              refine XT.tidy ?_
              conv => whnf
              refine XT.loop tabX_ok (Y := Nat) [5, 7, 11, 12, 13, 14, 15, 16, 17, 18, 19, 20, 21] (fun qc1 => [(11, .p (.v (.int .i64 ((qc1 : Int)))) (nlv _))]) (fun qc1 => []) (fun qc1 => qc1 ≤ n.s.length ∧ noCar n.s (mtN p i) qc1) (fun qc1 => n.s.length - qc1) 0 ⟨Nat.zero_le _, noCar_0 _ _⟩ ?_ ?_
              · skip
                refine ⟨?_, ?_, ?_⟩
                · skip
                  refine leEnv_app (by kernel_rfl) (by kernel_rfl) ?_
                  repeat ((conv => whnf); first | exact True.intro | refine ⟨.rfl, ?_⟩ | refine ⟨.any, ?_⟩ | refine ⟨.nil, ?_⟩ | refine ⟨.int (by first | rfl | omega | (simp only [wrs]; omega)), ?_⟩)
                · skip
                  repeat (first | exact LeVs.nil | ((conv => whnf); first | exact True.intro | exact .none | exact .row rfl | refine .cells ?_ | refine ⟨_, _, rfl, .rfl, ?_⟩ | refine ⟨_, _, rfl, .any, ?_⟩ | refine ⟨_, _, rfl, .nil, ?_⟩ | refine ⟨_, _, rfl, .int (by first | rfl | omega | (simp only [wrs]; omega)), ?_⟩ | refine ⟨?_, ?_⟩))
                  done
                · skip
                  exact LeFr.same (by kernel_rfl)
              · skip
                rintro qc1 ⟨hqc1, hnc⟩
                conv => whnf
                refine bS (fun hc1 => ?_) (fun hc1 => ?_)
                · skip
                  try simp only [bls] at hc1
                  conv => whnf
                  refine IdxG.map (l := n.s) _ rfl (by first | omega | (simp only [List.length_map] at *; omega)) ?_; intro y hy hny
                  conv => whnf
                  refine ⟨rfl, ?_⟩
                  conv => whnf
                  refine bS (fun hc2 => ?_) (fun hc2 => ?_)
                  · skip
                    try simp only [bls] at hc2
                    conv => whnf
                    obtain rfl : x = y := (meant_is hsl hp hK hx hi8 h2 hy hc2).symm
                    rw [← hc2]
                    conv => whnf
                    refine ⟨.inr rfl, ?_⟩
                    conv => whnf
                    refine ⟨.inr rfl, ?_⟩
                    conv => whnf
                    refine ⟨by assumption, ?_⟩
                    conv => whnf
                    refine .inl ?_
                    conv => whnf
                    refine InlG.mk (by kernel_rfl) Try.func34 rfl (Nat.le_of_ble_eq_true rfl) (XT.of tabX_ok ?_)
                    conv => whnf
                    refine XT.nilr 9 65 4 rfl rfl ?_
                    conv => whnf
                    refine XT.tidy ?_
                    conv => whnf
                    refine XT.loop tabX_ok (Y := Nat) [9, 10, 11, 12, 13, 14, 15, 16, 17, 18, 19, 20, 21, 22, 23, 24, 25, 26, 27, 28, 29, 30, 31, 32, 33, 34] (fun a => [(13, .p (.v (.int .i64 ((a : Int)))) (nlv _)), (9, .row 19)]) (fun a => [(19, .row 65 4 ((withR n.s (x.a) sl0 false a).map (slC false)) (nl_sl _ _))]) (fun a => a ≤ 80) (fun a => 80 - a) 0 (Nat.zero_le _) ?_ ?_
                    · skip
                      refine ⟨?_, ?_, ?_⟩
                      · skip
                        refine leEnv_app (by kernel_rfl) (by kernel_rfl) ?_
                        repeat ((conv => whnf); first | exact True.intro | refine ⟨.rfl, ?_⟩ | refine ⟨.any, ?_⟩ | refine ⟨.nil, ?_⟩ | refine ⟨.int (by first | rfl | omega | (simp only [wrs]; omega)), ?_⟩)
                      · skip
                        repeat (first | exact LeVs.nil | ((conv => whnf); first | exact True.intro | exact .none | exact .row rfl | refine .cells ?_ | refine ⟨_, _, rfl, .rfl, ?_⟩ | refine ⟨_, _, rfl, .any, ?_⟩ | refine ⟨_, _, rfl, .nil, ?_⟩ | refine ⟨_, _, rfl, .int (by first | rfl | omega | (simp only [wrs]; omega)), ?_⟩ | refine ⟨?_, ?_⟩))
                        done
                      · skip
                        exact LeFr.same (by kernel_rfl)
                    · skip
                      rintro a ha
                      rcases Nat.lt_or_ge a 80 with ha8 | ha8
                      · skip
                        conv => whnf
                        refine bT (decide_eq_true (by omega)) ?_
                        conv => whnf
                        refine .inl ?_
                        conv => whnf
                        refine InlG.mk (by kernel_rfl) Try.func60 rfl (Nat.le_of_ble_eq_true rfl) (XT.of tabX_ok ?_)
                        conv => whnf
                        refine XT.tidy ?_
                        conv => whnf
                        refine XT.loop tabX_ok (Y := Nat) [5, 7, 11, 12, 13, 14, 15, 16, 17, 18, 19, 20, 21] (fun qc2 => [(11, .p (.v (.int .i64 ((qc2 : Int)))) (nlv _))]) (fun qc2 => []) (fun qc2 => qc2 ≤ n.s.length ∧ noCar n.s ((↑a : Int)) qc2) (fun qc2 => n.s.length - qc2) 0 ⟨Nat.zero_le _, noCar_0 _ _⟩ ?_ ?_
                        · skip
                          refine ⟨?_, ?_, ?_⟩
                          · skip
                            refine leEnv_app (by kernel_rfl) (by kernel_rfl) ?_
                            repeat ((conv => whnf); first | exact True.intro | refine ⟨.rfl, ?_⟩ | refine ⟨.any, ?_⟩ | refine ⟨.nil, ?_⟩ | refine ⟨.int (by first | rfl | omega | (simp only [wrs]; omega)), ?_⟩)
                          · skip
                            repeat (first | exact LeVs.nil | ((conv => whnf); first | exact True.intro | exact .none | exact .row rfl | refine .cells ?_ | refine ⟨_, _, rfl, .rfl, ?_⟩ | refine ⟨_, _, rfl, .any, ?_⟩ | refine ⟨_, _, rfl, .nil, ?_⟩ | refine ⟨_, _, rfl, .int (by first | rfl | omega | (simp only [wrs]; omega)), ?_⟩ | refine ⟨?_, ?_⟩))
                            done
                          · skip
                            exact LeFr.same (by kernel_rfl)
                        · skip
                          rintro qc2 ⟨hqc2, hnc⟩
                          conv => whnf
                          refine bS (fun hc3 => ?_) (fun hc3 => ?_)
                          · skip
                            try simp only [bls] at hc3
                            conv => whnf
                            refine IdxG.map (l := n.s) _ rfl (by first | omega | (simp only [List.length_map] at *; omega)) ?_; intro y hy hny
                            conv => whnf
                            refine ⟨rfl, ?_⟩
                            conv => whnf
                            refine bS (fun hc4 => ?_) (fun hc4 => ?_)
                            · skip
                              try simp only [bls] at hc4
                              conv => whnf
                              refine ⟨.inr rfl, ?_⟩
                              conv => whnf
                              refine bS (fun hc5 => ?_) (fun hc5 => ?_)
                              · skip
                                try simp only [bls] at hc5
                                conv => whnf
                                refine ⟨(a + 1), (by omega), (by omega), ?_⟩
                                refine ⟨?_, ?_, ?_⟩
                                · skip
                                  refine leEnv_app (by kernel_rfl) (by kernel_rfl) ?_
                                  repeat ((conv => whnf); first | exact True.intro | refine ⟨.rfl, ?_⟩ | refine ⟨.any, ?_⟩ | refine ⟨.nil, ?_⟩ | refine ⟨.int (by first | rfl | omega | (simp only [wrs]; omega)), ?_⟩)
                                · skip
                                  repeat (first | exact LeVs.nil | ((conv => whnf); first | exact True.intro | exact .none | exact .row rfl | exact .row ((by rw [withR_n (by omega) rfl] : _ = _)) | refine .cells ?_ | refine ⟨_, _, rfl, .rfl, ?_⟩ | refine ⟨_, _, rfl, .any, ?_⟩ | refine ⟨_, _, rfl, .nil, ?_⟩ | refine ⟨_, _, rfl, .int (by first | rfl | omega | (simp only [wrs]; omega)), ?_⟩ | refine ⟨?_, ?_⟩))
                                  done
                                · skip
                                  exact LeFr.same (by kernel_rfl)
                              · skip
                                try simp only [bls] at hc5
                                conv => whnf
                                refine ⟨ApOk.lit rfl, ?_⟩
                                conv => whnf
                                refine ⟨by have h8 := withR_len n.s x.a sl0 false a; simp only [List.length_map, List.length_cons, List.length_nil]; omega, ?_⟩
                                conv => whnf
                                refine ⟨(a + 1), (by omega), (by omega), ?_⟩
                                refine ⟨?_, ?_, ?_⟩
                                · skip
                                  refine leEnv_app (by kernel_rfl) (by kernel_rfl) ?_
                                  repeat ((conv => whnf); first | exact True.intro | refine ⟨.rfl, ?_⟩ | refine ⟨.any, ?_⟩ | refine ⟨.nil, ?_⟩ | refine ⟨.int (by first | rfl | omega | (simp only [wrs]; omega)), ?_⟩)
                                · skip
                                  repeat (first | exact LeVs.nil | ((conv => whnf); first | exact True.intro | exact .none | exact .row rfl | exact .row ((by rw [withR_c (by omega) hnc hy (by omega), List.map_append]; rfl : _ = _)) | refine .cells ?_ | refine ⟨_, _, rfl, .rfl, ?_⟩ | refine ⟨_, _, rfl, .any, ?_⟩ | refine ⟨_, _, rfl, .nil, ?_⟩ | refine ⟨_, _, rfl, .int (by first | rfl | omega | (simp only [wrs]; omega)), ?_⟩ | refine ⟨?_, ?_⟩))
                                  done
                                · skip
                                  exact LeFr.same (by kernel_rfl)
                            · skip
                              try simp only [bls] at hc4
                              conv => whnf
                              refine ⟨(qc2 + 1), ⟨by omega, noCar_s hnc hy (by assumption)⟩, (by omega), ?_⟩
                              refine ⟨?_, ?_, ?_⟩
                              · skip
                                refine leEnv_app (by kernel_rfl) (by kernel_rfl) ?_
                                repeat ((conv => whnf); first | exact True.intro | refine ⟨.rfl, ?_⟩ | refine ⟨.any, ?_⟩ | refine ⟨.nil, ?_⟩ | refine ⟨.int (by first | rfl | omega | (simp only [wrs]; omega)), ?_⟩)
                              · skip
                                repeat (first | exact LeVs.nil | ((conv => whnf); first | exact True.intro | exact .none | exact .row rfl | refine .cells ?_ | refine ⟨_, _, rfl, .rfl, ?_⟩ | refine ⟨_, _, rfl, .any, ?_⟩ | refine ⟨_, _, rfl, .nil, ?_⟩ | refine ⟨_, _, rfl, .int (by first | rfl | omega | (simp only [wrs]; omega)), ?_⟩ | refine ⟨?_, ?_⟩))
                                done
                              · skip
                                exact LeFr.same (by kernel_rfl)
                          · skip
                            try simp only [bls] at hc3
                            conv => whnf
                            refine ⟨.inr rfl, ?_⟩
                            conv => whnf
                            refine bS (fun hc6 => ?_) (fun hc6 => ?_)
                            · skip
                              try simp only [bls] at hc6
                              conv => whnf
                              refine ⟨(a + 1), (by omega), (by omega), ?_⟩
                              refine ⟨?_, ?_, ?_⟩
                              · skip
                                refine leEnv_app (by kernel_rfl) (by kernel_rfl) ?_
                                repeat ((conv => whnf); first | exact True.intro | refine ⟨.rfl, ?_⟩ | refine ⟨.any, ?_⟩ | refine ⟨.nil, ?_⟩ | refine ⟨.int (by first | rfl | omega | (simp only [wrs]; omega)), ?_⟩)
                              · skip
                                repeat (first | exact LeVs.nil | ((conv => whnf); first | exact True.intro | exact .none | exact .row rfl | exact .row ((by rw [withR_n (by omega) rfl] : _ = _)) | refine .cells ?_ | refine ⟨_, _, rfl, .rfl, ?_⟩ | refine ⟨_, _, rfl, .any, ?_⟩ | refine ⟨_, _, rfl, .nil, ?_⟩ | refine ⟨_, _, rfl, .int (by first | rfl | omega | (simp only [wrs]; omega)), ?_⟩ | refine ⟨?_, ?_⟩))
                                done
                              · skip
                                exact LeFr.same (by kernel_rfl)
                            · skip
                              try simp only [bls] at hc6
                              conv => whnf
                              refine ⟨(a + 1), (by omega), (by omega), ?_⟩
                              refine ⟨?_, ?_, ?_⟩
                              · skip
                                refine leEnv_app (by kernel_rfl) (by kernel_rfl) ?_
                                repeat ((conv => whnf); first | exact True.intro | refine ⟨.rfl, ?_⟩ | refine ⟨.any, ?_⟩ | refine ⟨.nil, ?_⟩ | refine ⟨.int (by first | rfl | omega | (simp only [wrs]; omega)), ?_⟩)
                              · skip
                                repeat (first | exact LeVs.nil | ((conv => whnf); first | exact True.intro | exact .none | exact .row rfl | exact .row ((by rw [withR_f (by omega) hnc (by omega)] : _ = _)) | refine .cells ?_ | refine ⟨_, _, rfl, .rfl, ?_⟩ | refine ⟨_, _, rfl, .any, ?_⟩ | refine ⟨_, _, rfl, .nil, ?_⟩ | refine ⟨_, _, rfl, .int (by first | rfl | omega | (simp only [wrs]; omega)), ?_⟩ | refine ⟨?_, ?_⟩))
                                done
                              · skip
                                exact LeFr.same (by kernel_rfl)
                      · skip
                        obtain rfl : a = 80 := by omega
                        conv => whnf
                        refine ⟨.inr rfl, ?_⟩
                        conv => whnf
                        refine RegG.late 6 [(6, 0, 4), (7, 0, 3)] (by kernel_rfl) ?_
                        conv => whnf
                        refine ⟨rfl, ?_⟩
                        conv => whnf
                        refine ⟨rfl, ?_⟩
                        conv => whnf
                        refine ⟨by assumption, ?_⟩
                        conv => whnf
                        refine .ct ?_
                        conv => whnf
                        refine CallG.mk (deaf_X _ _ _ n x.f x.t (by omega)) rfl ?_
                        conv => whnf
                        refine bT (decide_eq_true hm) ?_
                        conv => whnf
                        refine ⟨by assumption, ?_⟩
                        conv => whnf
                        refine .ct ?_
                        conv => whnf
                        refine CallG.mk (full_X _ _ _ n) rfl ?_
                        conv => whnf
                        refine bF (by simp [hf]; done) ?_
                        conv => whnf
                        refine ⟨(false, true, (true, true, true), (true, false, false), (true, true, true)), trivial, [19], ?_⟩
                        conv => whnf
                        show LeX _ _ _ _ _ _
                        refine ⟨?_, ?_, ?_⟩
                        · skip
                          refine leEnv_app (by kernel_rfl) (by kernel_rfl) ?_
                          repeat ((conv => whnf); first | exact True.intro | refine ⟨.rfl, ?_⟩ | refine ⟨.any, ?_⟩ | refine ⟨.nil, ?_⟩ | refine ⟨.int (by first | rfl | omega | (simp only [wrs]; omega)), ?_⟩ | refine ⟨.int (by rfl), ?_⟩ | refine ⟨.tv (by rw [with_del hsl hx]), ?_⟩ | refine ⟨.tv (by rw [lastI_s hrl (by omega), with_ins hsl (slotN_way _ _) hi1]), ?_⟩ | refine ⟨.int (lastI_s hrl (by omega)), ?_⟩)
                        · skip
                          repeat (first | exact LeVs.nil | ((conv => whnf); first | exact True.intro | exact .none | exact .row rfl | refine .cells ?_ | refine ⟨_, _, rfl, .rfl, ?_⟩ | refine ⟨_, _, rfl, .any, ?_⟩ | refine ⟨_, _, rfl, .nil, ?_⟩ | refine ⟨_, _, rfl, .int (by first | rfl | omega | (simp only [wrs]; omega)), ?_⟩ | refine ⟨_, _, rfl, .int (by rfl), ?_⟩ | refine ⟨_, _, rfl, .tv (by rw [with_del hsl hx]), ?_⟩ | refine ⟨_, _, rfl, .tv (by rw [lastI_s hrl (by omega), with_ins hsl (slotN_way _ _) hi1]), ?_⟩ | refine ⟨_, _, rfl, .int (lastI_s hrl (by omega)), ?_⟩ | refine ⟨?_, ?_⟩))
                          done
                        · skip
                          exact LeFr.same (by kernel_rfl)
                  · skip
                    try simp only [bls] at hc2
                    conv => whnf
                    refine ⟨(qc1 + 1), ⟨by omega, noCar_s hnc hy (by assumption)⟩, (by omega), ?_⟩
                    refine ⟨?_, ?_, ?_⟩
                    · skip
                      refine leEnv_app (by kernel_rfl) (by kernel_rfl) ?_
                      repeat ((conv => whnf); first | exact True.intro | refine ⟨.rfl, ?_⟩ | refine ⟨.any, ?_⟩ | refine ⟨.nil, ?_⟩ | refine ⟨.int (by first | rfl | omega | (simp only [wrs]; omega)), ?_⟩)
                    · skip
                      repeat (first | exact LeVs.nil | ((conv => whnf); first | exact True.intro | exact .none | exact .row rfl | refine .cells ?_ | refine ⟨_, _, rfl, .rfl, ?_⟩ | refine ⟨_, _, rfl, .any, ?_⟩ | refine ⟨_, _, rfl, .nil, ?_⟩ | refine ⟨_, _, rfl, .int (by first | rfl | omega | (simp only [wrs]; omega)), ?_⟩ | refine ⟨?_, ?_⟩))
                      done
                    · skip
                      exact LeFr.same (by kernel_rfl)
                · skip
                  try simp only [bls] at hc1
                  conv => whnf
                  refine ⟨.inr rfl, ?_⟩
                  conv => whnf
                  refine ⟨(i + 1), ⟨by omega, fun j hj => by rcases Nat.lt_or_ge j i with h8 | h8; exact h2 j h8; obtain rfl : j = i := (by omega); exact car_f hnc (by omega)⟩, (by omega), ?_⟩
                  refine ⟨?_, ?_, ?_⟩
                  · skip
                    refine leEnv_app (by kernel_rfl) (by kernel_rfl) ?_
                    repeat ((conv => whnf); first | exact True.intro | refine ⟨.rfl, ?_⟩ | refine ⟨.any, ?_⟩ | refine ⟨.nil, ?_⟩ | refine ⟨.int (by first | rfl | omega | (simp only [wrs]; omega)), ?_⟩ | refine ⟨.int (meant_0 hp), ?_⟩ | refine ⟨.int (meant_0 hp).symm, ?_⟩ | refine ⟨.int meant_s, ?_⟩ | refine ⟨.int meant_s.symm, ?_⟩)
                  · skip
                    repeat (first | exact LeVs.nil | ((conv => whnf); first | exact True.intro | exact .none | exact .row rfl | refine .cells ?_ | refine ⟨_, _, rfl, .rfl, ?_⟩ | refine ⟨_, _, rfl, .any, ?_⟩ | refine ⟨_, _, rfl, .nil, ?_⟩ | refine ⟨_, _, rfl, .int (by first | rfl | omega | (simp only [wrs]; omega)), ?_⟩ | refine ⟨_, _, rfl, .int (meant_0 hp), ?_⟩ | refine ⟨_, _, rfl, .int (meant_0 hp).symm, ?_⟩ | refine ⟨_, _, rfl, .int meant_s, ?_⟩ | refine ⟨_, _, rfl, .int meant_s.symm, ?_⟩ | refine ⟨?_, ?_⟩))
                    done
                  · skip
                    exact LeFr.same (by kernel_rfl)
            · skip
              exact (meant_no hp hK fun q hq => h2 q (by omega)).elim
        · skip
          have hxb := hsz.b x (List.mem_of_getElem? hx)
          have hsl := right_S hr
          have hrl := (right_of hr).l
          obtain rfl := hM.trans h1
          obtain rfl := hD.trans h2
          obtain rfl := hL.trans h3
          obtain rfl := hB.trans h4
          conv => whnf
          refine XT.pass tabX_ok ?_
          conv => whnf
          refine ⟨by assumption, ?_⟩
          conv => whnf
          refine .inl ?_
          conv => whnf
          refine InlG.mk (by kernel_rfl) Try.func33 rfl (Nat.le_of_ble_eq_true rfl) (XT.of tabX_ok ?_)
          conv => whnf
          refine XT.tidy ?_
          conv => whnf
          refine XT.loop tabX_ok (Y := Nat) [5, 6, 7, 10, 11, 12, 13, 14, 15, 16, 17, 18, 19, 20, 21, 22, 23, 24, 25] (fun i => [(5, .p (.v (.int .i64 (mtN p i))) (nlv _)), (10, .p (.v (.int .i64 ((i : Int)))) (nlv _))]) (fun i => []) (fun i => i ≤ 80 ∧ ∀ j, j < i → hasS n.s (mtN p j) = false) (fun i => 80 - i) 0 ⟨by omega, fun j hj => by omega⟩ ?_ ?_
          · skip
            refine ⟨?_, ?_, ?_⟩
            · skip
              refine leEnv_app (by kernel_rfl) (by kernel_rfl) ?_
              repeat ((conv => whnf); first | exact True.intro | refine ⟨.rfl, ?_⟩ | refine ⟨.any, ?_⟩ | refine ⟨.nil, ?_⟩ | refine ⟨.int (by first | rfl | omega | (simp only [wrs]; omega)), ?_⟩ | refine ⟨.int (meant_0 hp), ?_⟩ | refine ⟨.int (meant_0 hp).symm, ?_⟩ | refine ⟨.int meant_s, ?_⟩ | refine ⟨.int meant_s.symm, ?_⟩)
            · skip
              repeat (first | exact LeVs.nil | ((conv => whnf); first | exact True.intro | exact .none | exact .row rfl | refine .cells ?_ | refine ⟨_, _, rfl, .rfl, ?_⟩ | refine ⟨_, _, rfl, .any, ?_⟩ | refine ⟨_, _, rfl, .nil, ?_⟩ | refine ⟨_, _, rfl, .int (by first | rfl | omega | (simp only [wrs]; omega)), ?_⟩ | refine ⟨_, _, rfl, .int (meant_0 hp), ?_⟩ | refine ⟨_, _, rfl, .int (meant_0 hp).symm, ?_⟩ | refine ⟨_, _, rfl, .int meant_s, ?_⟩ | refine ⟨_, _, rfl, .int meant_s.symm, ?_⟩ | refine ⟨?_, ?_⟩))
              done
            · skip
              exact LeFr.same (by kernel_rfl)
          · skip
            rintro i ⟨hi, h2⟩
            rcases Nat.lt_or_ge i 80 with hi8 | hi8
            · skip
              conv => whnf
              refine bT (decide_eq_true (by omega)) ?_
              conv => whnf
              refine .inl ?_
              conv => whnf
              refine InlG.mk (by kernel_rfl) Try.func60 rfl (Nat.le_of_ble_eq_true rfl) (XT.of tabX_ok ?_)
              conv => whnf
              refine XT.tidy ?_
              conv => whnf
              refine XT.loop tabX_ok (Y := Nat) [5, 7, 11, 12, 13, 14, 15, 16, 17, 18, 19, 20, 21] (fun qc3 => [(11, .p (.v (.int .i64 ((qc3 : Int)))) (nlv _))]) (fun qc3 => []) (fun qc3 => qc3 ≤ n.s.length ∧ noCar n.s (mtN p i) qc3) (fun qc3 => n.s.length - qc3) 0 ⟨Nat.zero_le _, noCar_0 _ _⟩ ?_ ?_
              · skip
                refine ⟨?_, ?_, ?_⟩
                · skip
                  refine leEnv_app (by kernel_rfl) (by kernel_rfl) ?_
                  repeat ((conv => whnf); first | exact True.intro | refine ⟨.rfl, ?_⟩ | refine ⟨.any, ?_⟩ | refine ⟨.nil, ?_⟩ | refine ⟨.int (by first | rfl | omega | (simp only [wrs]; omega)), ?_⟩)
                · skip
                  repeat (first | exact LeVs.nil | ((conv => whnf); first | exact True.intro | exact .none | exact .row rfl | refine .cells ?_ | refine ⟨_, _, rfl, .rfl, ?_⟩ | refine ⟨_, _, rfl, .any, ?_⟩ | refine ⟨_, _, rfl, .nil, ?_⟩ | refine ⟨_, _, rfl, .int (by first | rfl | omega | (simp only [wrs]; omega)), ?_⟩ | refine ⟨?_, ?_⟩))
                  done
                · skip
                  exact LeFr.same (by kernel_rfl)
              · skip
                rintro qc3 ⟨hqc3, hnc⟩
                conv => whnf
                refine bS (fun hc7 => ?_) (fun hc7 => ?_)
                · skip
                  try simp only [bls] at hc7
                  conv => whnf
                  refine IdxG.map (l := n.s) _ rfl (by first | omega | (simp only [List.length_map] at *; omega)) ?_; intro y hy hny
                  conv => whnf
                  refine ⟨rfl, ?_⟩
                  conv => whnf
                  refine bS (fun hc8 => ?_) (fun hc8 => ?_)
                  · skip
                    try simp only [bls] at hc8
                    conv => whnf
                    obtain rfl : x = y := (meant_is hsl hp hK hx hi8 h2 hy hc8).symm
                    rw [← hc8]
                    conv => whnf
                    refine ⟨.inr rfl, ?_⟩
                    conv => whnf
                    refine ⟨.inr rfl, ?_⟩
                    conv => whnf
                    refine ⟨by assumption, ?_⟩
                    conv => whnf
                    refine .inl ?_
                    conv => whnf
                    refine InlG.mk (by kernel_rfl) Try.func34 rfl (Nat.le_of_ble_eq_true rfl) (XT.of tabX_ok ?_)
                    conv => whnf
                    refine XT.nilr 9 65 4 rfl rfl ?_
                    conv => whnf
                    refine XT.tidy ?_
                    conv => whnf
                    refine XT.loop tabX_ok (Y := Nat) [9, 10, 11, 12, 13, 14, 15, 16, 17, 18, 19, 20, 21, 22, 23, 24, 25, 26, 27, 28, 29, 30, 31, 32, 33, 34] (fun a => [(13, .p (.v (.int .i64 ((a : Int)))) (nlv _)), (9, .row 19)]) (fun a => [(19, .row 65 4 ((withR n.s (x.a) sl0 false a).map (slC false)) (nl_sl _ _))]) (fun a => a ≤ 80) (fun a => 80 - a) 0 (Nat.zero_le _) ?_ ?_
                    · skip
                      refine ⟨?_, ?_, ?_⟩
                      · skip
                        refine leEnv_app (by kernel_rfl) (by kernel_rfl) ?_
                        repeat ((conv => whnf); first | exact True.intro | refine ⟨.rfl, ?_⟩ | refine ⟨.any, ?_⟩ | refine ⟨.nil, ?_⟩ | refine ⟨.int (by first | rfl | omega | (simp only [wrs]; omega)), ?_⟩)
                      · skip
                        repeat (first | exact LeVs.nil | ((conv => whnf); first | exact True.intro | exact .none | exact .row rfl | refine .cells ?_ | refine ⟨_, _, rfl, .rfl, ?_⟩ | refine ⟨_, _, rfl, .any, ?_⟩ | refine ⟨_, _, rfl, .nil, ?_⟩ | refine ⟨_, _, rfl, .int (by first | rfl | omega | (simp only [wrs]; omega)), ?_⟩ | refine ⟨?_, ?_⟩))
                        done
                      · skip
                        exact LeFr.same (by kernel_rfl)
                    · skip
                      rintro a ha
                      rcases Nat.lt_or_ge a 80 with ha8 | ha8
                      · skip
                        conv => whnf
                        refine bT (decide_eq_true (by omega)) ?_
                        conv => whnf
                        refine .inl ?_
                        conv => whnf
                        refine InlG.mk (by kernel_rfl) Try.func60 rfl (Nat.le_of_ble_eq_true rfl) (XT.of tabX_ok ?_)
                        conv => whnf
                        refine XT.tidy ?_
                        conv => whnf
                        refine XT.loop tabX_ok (Y := Nat) [5, 7, 11, 12, 13, 14, 15, 16, 17, 18, 19, 20, 21] (fun qc4 => [(11, .p (.v (.int .i64 ((qc4 : Int)))) (nlv _))]) (fun qc4 => []) (fun qc4 => qc4 ≤ n.s.length ∧ noCar n.s ((↑a : Int)) qc4) (fun qc4 => n.s.length - qc4) 0 ⟨Nat.zero_le _, noCar_0 _ _⟩ ?_ ?_
                        · skip
                          refine ⟨?_, ?_, ?_⟩
                          · skip
                            refine leEnv_app (by kernel_rfl) (by kernel_rfl) ?_
                            repeat ((conv => whnf); first | exact True.intro | refine ⟨.rfl, ?_⟩ | refine ⟨.any, ?_⟩ | refine ⟨.nil, ?_⟩ | refine ⟨.int (by first | rfl | omega | (simp only [wrs]; omega)), ?_⟩)
                          · skip
                            repeat (first | exact LeVs.nil | ((conv => whnf); first | exact True.intro | exact .none | exact .row rfl | refine .cells ?_ | refine ⟨_, _, rfl, .rfl, ?_⟩ | refine ⟨_, _, rfl, .any, ?_⟩ | refine ⟨_, _, rfl, .nil, ?_⟩ | refine ⟨_, _, rfl, .int (by first | rfl | omega | (simp only [wrs]; omega)), ?_⟩ | refine ⟨?_, ?_⟩))
                            done
                          · skip
                            exact LeFr.same (by kernel_rfl)
                        · skip
                          rintro qc4 ⟨hqc4, hnc⟩
                          conv => whnf
                          refine bS (fun hc9 => ?_) (fun hc9 => ?_)
                          · skip
                            try simp only [bls] at hc9
                            conv => whnf
                            refine IdxG.map (l := n.s) _ rfl (by first | omega | (simp only [List.length_map] at *; omega)) ?_; intro y hy hny
                            conv => whnf
                            refine ⟨rfl, ?_⟩
                            conv => whnf
                            refine bS (fun hc10 => ?_) (fun hc10 => ?_)
                            · skip
                              try simp only [bls] at hc10
                              conv => whnf
                              refine ⟨.inr rfl, ?_⟩
                              conv => whnf
                              refine bS (fun hc11 => ?_) (fun hc11 => ?_)
                              · skip
                                try simp only [bls] at hc11
                                conv => whnf
                                refine ⟨(a + 1), (by omega), (by omega), ?_⟩
                                refine ⟨?_, ?_, ?_⟩
                                · skip
                                  refine leEnv_app (by kernel_rfl) (by kernel_rfl) ?_
                                  repeat ((conv => whnf); first | exact True.intro | refine ⟨.rfl, ?_⟩ | refine ⟨.any, ?_⟩ | refine ⟨.nil, ?_⟩ | refine ⟨.int (by first | rfl | omega | (simp only [wrs]; omega)), ?_⟩)
                                · skip
                                  repeat (first | exact LeVs.nil | ((conv => whnf); first | exact True.intro | exact .none | exact .row rfl | exact .row ((by rw [withR_n (by omega) rfl] : _ = _)) | refine .cells ?_ | refine ⟨_, _, rfl, .rfl, ?_⟩ | refine ⟨_, _, rfl, .any, ?_⟩ | refine ⟨_, _, rfl, .nil, ?_⟩ | refine ⟨_, _, rfl, .int (by first | rfl | omega | (simp only [wrs]; omega)), ?_⟩ | refine ⟨?_, ?_⟩))
                                  done
                                · skip
                                  exact LeFr.same (by kernel_rfl)
                              · skip
                                try simp only [bls] at hc11
                                conv => whnf
                                refine ⟨ApOk.lit rfl, ?_⟩
                                conv => whnf
                                refine ⟨by have h8 := withR_len n.s x.a sl0 false a; simp only [List.length_map, List.length_cons, List.length_nil]; omega, ?_⟩
                                conv => whnf
                                refine ⟨(a + 1), (by omega), (by omega), ?_⟩
                                refine ⟨?_, ?_, ?_⟩
                                · skip
                                  refine leEnv_app (by kernel_rfl) (by kernel_rfl) ?_
                                  repeat ((conv => whnf); first | exact True.intro | refine ⟨.rfl, ?_⟩ | refine ⟨.any, ?_⟩ | refine ⟨.nil, ?_⟩ | refine ⟨.int (by first | rfl | omega | (simp only [wrs]; omega)), ?_⟩)
                                · skip
                                  repeat (first | exact LeVs.nil | ((conv => whnf); first | exact True.intro | exact .none | exact .row rfl | exact .row ((by rw [withR_c (by omega) hnc hy (by omega), List.map_append]; rfl : _ = _)) | refine .cells ?_ | refine ⟨_, _, rfl, .rfl, ?_⟩ | refine ⟨_, _, rfl, .any, ?_⟩ | refine ⟨_, _, rfl, .nil, ?_⟩ | refine ⟨_, _, rfl, .int (by first | rfl | omega | (simp only [wrs]; omega)), ?_⟩ | refine ⟨?_, ?_⟩))
                                  done
                                · skip
                                  exact LeFr.same (by kernel_rfl)
                            · skip
                              try simp only [bls] at hc10
                              conv => whnf
                              refine ⟨(qc4 + 1), ⟨by omega, noCar_s hnc hy (by assumption)⟩, (by omega), ?_⟩
                              refine ⟨?_, ?_, ?_⟩
                              · skip
                                refine leEnv_app (by kernel_rfl) (by kernel_rfl) ?_
                                repeat ((conv => whnf); first | exact True.intro | refine ⟨.rfl, ?_⟩ | refine ⟨.any, ?_⟩ | refine ⟨.nil, ?_⟩ | refine ⟨.int (by first | rfl | omega | (simp only [wrs]; omega)), ?_⟩)
                              · skip
                                repeat (first | exact LeVs.nil | ((conv => whnf); first | exact True.intro | exact .none | exact .row rfl | refine .cells ?_ | refine ⟨_, _, rfl, .rfl, ?_⟩ | refine ⟨_, _, rfl, .any, ?_⟩ | refine ⟨_, _, rfl, .nil, ?_⟩ | refine ⟨_, _, rfl, .int (by first | rfl | omega | (simp only [wrs]; omega)), ?_⟩ | refine ⟨?_, ?_⟩))
                                done
                              · skip
                                exact LeFr.same (by kernel_rfl)
                          · skip
                            try simp only [bls] at hc9
                            conv => whnf
                            refine ⟨.inr rfl, ?_⟩
                            conv => whnf
                            refine bS (fun hc12 => ?_) (fun hc12 => ?_)
                            · skip
                              try simp only [bls] at hc12
                              conv => whnf
                              refine ⟨(a + 1), (by omega), (by omega), ?_⟩
                              refine ⟨?_, ?_, ?_⟩
                              · skip
                                refine leEnv_app (by kernel_rfl) (by kernel_rfl) ?_
                                repeat ((conv => whnf); first | exact True.intro | refine ⟨.rfl, ?_⟩ | refine ⟨.any, ?_⟩ | refine ⟨.nil, ?_⟩ | refine ⟨.int (by first | rfl | omega | (simp only [wrs]; omega)), ?_⟩)
                              · skip
                                repeat (first | exact LeVs.nil | ((conv => whnf); first | exact True.intro | exact .none | exact .row rfl | exact .row ((by rw [withR_n (by omega) rfl] : _ = _)) | refine .cells ?_ | refine ⟨_, _, rfl, .rfl, ?_⟩ | refine ⟨_, _, rfl, .any, ?_⟩ | refine ⟨_, _, rfl, .nil, ?_⟩ | refine ⟨_, _, rfl, .int (by first | rfl | omega | (simp only [wrs]; omega)), ?_⟩ | refine ⟨?_, ?_⟩))
                                done
                              · skip
                                exact LeFr.same (by kernel_rfl)
                            · skip
                              try simp only [bls] at hc12
                              conv => whnf
                              refine ⟨(a + 1), (by omega), (by omega), ?_⟩
                              refine ⟨?_, ?_, ?_⟩
                              · skip
                                refine leEnv_app (by kernel_rfl) (by kernel_rfl) ?_
                                repeat ((conv => whnf); first | exact True.intro | refine ⟨.rfl, ?_⟩ | refine ⟨.any, ?_⟩ | refine ⟨.nil, ?_⟩ | refine ⟨.int (by first | rfl | omega | (simp only [wrs]; omega)), ?_⟩)
                              · skip
                                repeat (first | exact LeVs.nil | ((conv => whnf); first | exact True.intro | exact .none | exact .row rfl | exact .row ((by rw [withR_f (by omega) hnc (by omega)] : _ = _)) | refine .cells ?_ | refine ⟨_, _, rfl, .rfl, ?_⟩ | refine ⟨_, _, rfl, .any, ?_⟩ | refine ⟨_, _, rfl, .nil, ?_⟩ | refine ⟨_, _, rfl, .int (by first | rfl | omega | (simp only [wrs]; omega)), ?_⟩ | refine ⟨?_, ?_⟩))
                                done
                              · skip
                                exact LeFr.same (by kernel_rfl)
                      · skip
                        obtain rfl : a = 80 := by omega
                        conv => whnf
                        refine ⟨.inr rfl, ?_⟩
                        conv => whnf
                        refine RegG.late 6 [(6, 0, 4), (7, 0, 3)] (by kernel_rfl) ?_
                        conv => whnf
                        refine ⟨rfl, ?_⟩
                        conv => whnf
                        refine ⟨rfl, ?_⟩
                        conv => whnf
                        refine ⟨by assumption, ?_⟩
                        conv => whnf
                        refine .ct ?_
                        conv => whnf
                        refine CallG.mk (deaf_X _ _ _ n x.f x.t (by omega)) rfl ?_
                        conv => whnf
                        refine bT (decide_eq_true hm) ?_
                        conv => whnf
                        refine ⟨by assumption, ?_⟩
                        conv => whnf
                        refine .ct ?_
                        conv => whnf
                        refine CallG.mk (full_X _ _ _ n) rfl ?_
                        conv => whnf
                        refine bT (by simp [hf]; done) ?_
                        conv => whnf
                        refine ⟨by assumption, ?_⟩
                        conv => whnf
                        refine .inl ?_
                        conv => whnf
                        refine InlG.mk (by kernel_rfl) Try.func36 rfl (Nat.le_of_ble_eq_true rfl) (XT.of tabX_ok ?_)
                        conv => whnf
                        refine XT.tidy ?_
                        conv => whnf
                        refine XT.loop tabX_ok (Y := Nat) [5, 6, 7, 8, 9, 10, 11, 12, 13, 14, 15, 16, 17, 18, 19, 20, 21, 22, 23] (fun i => [(7, .p (.v (.int .i64 ((i : Int)))) (nlv _))]) (fun i => [(20, .cells 25 [.p (.sl false (n.s.map (slC false))) (nl_sl _ _).sl, .p (.v (.int .i64 (lastI n.l i))) (nlv _), .p (.sl false (n.d.map dfC)) (nl_df _).sl])]) (fun i => i ≤ 80 ∧ ∀ j, j < i → hasS n.s (slotN n.l j) = true) (fun i => 80 - i) 0 ⟨by omega, fun j hj => by omega⟩ ?_ ?_
                        · skip
                          refine ⟨?_, ?_, ?_⟩
                          · skip
                            refine leEnv_app (by kernel_rfl) (by kernel_rfl) ?_
                            repeat ((conv => whnf); first | exact True.intro | refine ⟨.rfl, ?_⟩ | refine ⟨.any, ?_⟩ | refine ⟨.nil, ?_⟩ | refine ⟨.int (by first | rfl | omega | (simp only [wrs]; omega)), ?_⟩ | refine ⟨.int (lastI_s hrl (by omega)), ?_⟩ | refine ⟨.int (lastI_s hrl (by omega)).symm, ?_⟩)
                          · skip
                            repeat (first | exact LeVs.nil | ((conv => whnf); first | exact True.intro | exact .none | exact .row rfl | refine .cells ?_ | refine ⟨_, _, rfl, .rfl, ?_⟩ | refine ⟨_, _, rfl, .any, ?_⟩ | refine ⟨_, _, rfl, .nil, ?_⟩ | refine ⟨_, _, rfl, .int (by first | rfl | omega | (simp only [wrs]; omega)), ?_⟩ | refine ⟨_, _, rfl, .int (lastI_s hrl (by omega)), ?_⟩ | refine ⟨_, _, rfl, .int (lastI_s hrl (by omega)).symm, ?_⟩ | refine ⟨?_, ?_⟩))
                            done
                          · skip
                            exact LeFr.same (by kernel_rfl)
                        · skip
                          rintro i ⟨hi, h2⟩
                          rcases Nat.lt_or_ge i 80 with hi8 | hi8
                          · skip
                            conv => whnf
                            refine bT (decide_eq_true (by omega)) ?_
                            conv => whnf
                            refine .inl ?_
                            conv => whnf
                            refine InlG.mk (by kernel_rfl) Try.func60 rfl (Nat.le_of_ble_eq_true rfl) (XT.of tabX_ok ?_)
                            conv => whnf
                            refine XT.tidy ?_
                            conv => whnf
                            refine XT.loop tabX_ok (Y := Nat) [5, 7, 11, 12, 13, 14, 15, 16, 17, 18, 19, 20, 21] (fun qc5 => [(11, .p (.v (.int .i64 ((qc5 : Int)))) (nlv _))]) (fun qc5 => []) (fun qc5 => qc5 ≤ n.s.length ∧ noCar n.s ((IntKind.i64.wrap (lastI n.l i + 1)).tmod 80) qc5) (fun qc5 => n.s.length - qc5) 0 ⟨Nat.zero_le _, noCar_0 _ _⟩ ?_ ?_
                            · skip
                              refine ⟨?_, ?_, ?_⟩
                              · skip
                                refine leEnv_app (by kernel_rfl) (by kernel_rfl) ?_
                                repeat ((conv => whnf); first | exact True.intro | refine ⟨.rfl, ?_⟩ | refine ⟨.any, ?_⟩ | refine ⟨.nil, ?_⟩ | refine ⟨.int (by first | rfl | omega | (simp only [wrs]; omega)), ?_⟩)
                              · skip
                                repeat (first | exact LeVs.nil | ((conv => whnf); first | exact True.intro | exact .none | exact .row rfl | refine .cells ?_ | refine ⟨_, _, rfl, .rfl, ?_⟩ | refine ⟨_, _, rfl, .any, ?_⟩ | refine ⟨_, _, rfl, .nil, ?_⟩ | refine ⟨_, _, rfl, .int (by first | rfl | omega | (simp only [wrs]; omega)), ?_⟩ | refine ⟨?_, ?_⟩))
                                done
                              · skip
                                exact LeFr.same (by kernel_rfl)
                            · skip
                              rintro qc5 ⟨hqc5, hnc⟩
                              conv => whnf
                              refine bS (fun hc13 => ?_) (fun hc13 => ?_)
                              · skip
                                try simp only [bls] at hc13
                                conv => whnf
                                refine IdxG.map (l := n.s) _ rfl (by first | omega | (simp only [List.length_map] at *; omega)) ?_; intro y hy hny
                                conv => whnf
                                refine ⟨rfl, ?_⟩
                                conv => whnf
                                refine bS (fun hc14 => ?_) (fun hc14 => ?_)
                                · skip
                                  try simp only [bls] at hc14
                                  try simp (disch := omega) only [wz, Int.reduceAdd, Int.reduceSub, Int.reduceMul, Int.reduceNeg, Int.zero_add, Int.add_zero, Int.sub_zero, Int.sub_self] at hc14
                                  conv => whnf
                                  refine ⟨.inr rfl, ?_⟩
                                  conv => whnf
                                  refine ⟨(i + 1), ⟨by omega, fun j hj => by rcases Nat.lt_or_ge j i with h8 | h8; exact h2 j h8; obtain rfl : j = i := (by omega); rw [← lastI_s hrl (by omega)]; exact (car_t hnc hy (by assumption)).1⟩, (by omega), ?_⟩
                                  refine ⟨?_, ?_, ?_⟩
                                  · skip
                                    refine leEnv_app (by kernel_rfl) (by kernel_rfl) ?_
                                    repeat ((conv => whnf); first | exact True.intro | refine ⟨.rfl, ?_⟩ | refine ⟨.any, ?_⟩ | refine ⟨.nil, ?_⟩ | refine ⟨.int (by first | rfl | omega | (simp only [wrs]; omega)), ?_⟩ | refine ⟨.int (lastI_s hrl (by omega)), ?_⟩ | refine ⟨.int (lastI_s hrl (by omega)).symm, ?_⟩)
                                  · skip
                                    repeat (first | exact LeVs.nil | ((conv => whnf); first | exact True.intro | exact .none | exact .row rfl | refine .cells ?_ | refine ⟨_, _, rfl, .rfl, ?_⟩ | refine ⟨_, _, rfl, .any, ?_⟩ | refine ⟨_, _, rfl, .nil, ?_⟩ | refine ⟨_, _, rfl, .int (by first | rfl | omega | (simp only [wrs]; omega)), ?_⟩ | refine ⟨_, _, rfl, .int (lastI_s hrl (by omega)), ?_⟩ | refine ⟨_, _, rfl, .int (lastI_s hrl (by omega)).symm, ?_⟩ | refine ⟨?_, ?_⟩))
                                    done
                                  · skip
                                    exact LeFr.same (by kernel_rfl)
                                · skip
                                  try simp only [bls] at hc14
                                  try simp (disch := omega) only [wz, Int.reduceAdd, Int.reduceSub, Int.reduceMul, Int.reduceNeg, Int.zero_add, Int.add_zero, Int.sub_zero, Int.sub_self] at hc14
                                  conv => whnf
                                  refine ⟨(qc5 + 1), ⟨by omega, noCar_s hnc hy (by assumption)⟩, (by omega), ?_⟩
                                  refine ⟨?_, ?_, ?_⟩
                                  · skip
                                    refine leEnv_app (by kernel_rfl) (by kernel_rfl) ?_
                                    repeat ((conv => whnf); first | exact True.intro | refine ⟨.rfl, ?_⟩ | refine ⟨.any, ?_⟩ | refine ⟨.nil, ?_⟩ | refine ⟨.int (by first | rfl | omega | (simp only [wrs]; omega)), ?_⟩)
                                  · skip
                                    repeat (first | exact LeVs.nil | ((conv => whnf); first | exact True.intro | exact .none | exact .row rfl | refine .cells ?_ | refine ⟨_, _, rfl, .rfl, ?_⟩ | refine ⟨_, _, rfl, .any, ?_⟩ | refine ⟨_, _, rfl, .nil, ?_⟩ | refine ⟨_, _, rfl, .int (by first | rfl | omega | (simp only [wrs]; omega)), ?_⟩ | refine ⟨?_, ?_⟩))
                                    done
                                  · skip
                                    exact LeFr.same (by kernel_rfl)
                              · skip
                                try simp only [bls] at hc13
                                conv => whnf
                                obtain rfl : i0 = i := first_eq (s := n.s) (l := n.l) hi1 hi2 (by rw [← lastI_s hrl (by omega)]; exact car_f hnc (by omega)) h2
                                conv => whnf
                                refine ⟨.inr rfl, ?_⟩
                                conv => whnf
                                refine .inl ?_
                                conv => whnf
                                refine InlG.mk (by kernel_rfl) Try.func34 rfl (Nat.le_of_ble_eq_true rfl) (XT.of tabX_ok ?_)
                                conv => whnf
                                refine XT.nilr 9 65 4 rfl rfl ?_
                                conv => whnf
                                refine XT.tidy ?_
                                conv => whnf
                                refine XT.loop tabX_ok (Y := Nat) [9, 10, 11, 12, 13, 14, 15, 16, 17, 18, 19, 20, 21, 22, 23, 24, 25, 26, 27, 28, 29, 30, 31, 32, 33, 34] (fun a => [(13, .p (.v (.int .i64 ((a : Int)))) (nlv _)), (9, .row 29)]) (fun a => [(29, .row 65 4 ((withR n.s ((IntKind.i64.wrap (lastI n.l i0 + 1)).tmod 80) x true a).map (slC false)) (nl_sl _ _))]) (fun a => a ≤ 80) (fun a => 80 - a) 0 (Nat.zero_le _) ?_ ?_
                                · skip
                                  refine ⟨?_, ?_, ?_⟩
                                  · skip
                                    refine leEnv_app (by kernel_rfl) (by kernel_rfl) ?_
                                    repeat ((conv => whnf); first | exact True.intro | refine ⟨.rfl, ?_⟩ | refine ⟨.any, ?_⟩ | refine ⟨.nil, ?_⟩ | refine ⟨.int (by first | rfl | omega | (simp only [wrs]; omega)), ?_⟩)
                                  · skip
                                    repeat (first | exact LeVs.nil | ((conv => whnf); first | exact True.intro | exact .none | exact .row rfl | refine .cells ?_ | refine ⟨_, _, rfl, .rfl, ?_⟩ | refine ⟨_, _, rfl, .any, ?_⟩ | refine ⟨_, _, rfl, .nil, ?_⟩ | refine ⟨_, _, rfl, .int (by first | rfl | omega | (simp only [wrs]; omega)), ?_⟩ | refine ⟨?_, ?_⟩))
                                    done
                                  · skip
                                    exact LeFr.same (by kernel_rfl)
                                · skip
                                  rintro a ha
                                  rcases Nat.lt_or_ge a 80 with ha8 | ha8
                                  · skip
                                    conv => whnf
                                    refine bT (decide_eq_true (by omega)) ?_
                                    conv => whnf
                                    refine .inl ?_
                                    conv => whnf
                                    refine InlG.mk (by kernel_rfl) Try.func60 rfl (Nat.le_of_ble_eq_true rfl) (XT.of tabX_ok ?_)
                                    conv => whnf
                                    refine XT.tidy ?_
                                    conv => whnf
                                    refine XT.loop tabX_ok (Y := Nat) [5, 7, 11, 12, 13, 14, 15, 16, 17, 18, 19, 20, 21] (fun qc6 => [(11, .p (.v (.int .i64 ((qc6 : Int)))) (nlv _))]) (fun qc6 => []) (fun qc6 => qc6 ≤ n.s.length ∧ noCar n.s ((↑a : Int)) qc6) (fun qc6 => n.s.length - qc6) 0 ⟨Nat.zero_le _, noCar_0 _ _⟩ ?_ ?_
                                    · skip
                                      refine ⟨?_, ?_, ?_⟩
                                      · skip
                                        refine leEnv_app (by kernel_rfl) (by kernel_rfl) ?_
                                        repeat ((conv => whnf); first | exact True.intro | refine ⟨.rfl, ?_⟩ | refine ⟨.any, ?_⟩ | refine ⟨.nil, ?_⟩ | refine ⟨.int (by first | rfl | omega | (simp only [wrs]; omega)), ?_⟩)
                                      · skip
                                        repeat (first | exact LeVs.nil | ((conv => whnf); first | exact True.intro | exact .none | exact .row rfl | refine .cells ?_ | refine ⟨_, _, rfl, .rfl, ?_⟩ | refine ⟨_, _, rfl, .any, ?_⟩ | refine ⟨_, _, rfl, .nil, ?_⟩ | refine ⟨_, _, rfl, .int (by first | rfl | omega | (simp only [wrs]; omega)), ?_⟩ | refine ⟨?_, ?_⟩))
                                        done
                                      · skip
                                        exact LeFr.same (by kernel_rfl)
                                    · skip
                                      rintro qc6 ⟨hqc6, hnc⟩
                                      conv => whnf
                                      refine bS (fun hc15 => ?_) (fun hc15 => ?_)
                                      · skip
                                        try simp only [bls] at hc15
                                        conv => whnf
                                        refine IdxG.map (l := n.s) _ rfl (by first | omega | (simp only [List.length_map] at *; omega)) ?_; intro y hy hny
                                        conv => whnf
                                        refine ⟨rfl, ?_⟩
                                        conv => whnf
                                        refine bS (fun hc16 => ?_) (fun hc16 => ?_)
                                        · skip
                                          try simp only [bls] at hc16
                                          conv => whnf
                                          refine ⟨.inr rfl, ?_⟩
                                          conv => whnf
                                          refine bS (fun hc17 => ?_) (fun hc17 => ?_)
                                          · skip
                                            try simp only [bls] at hc17
                                            try simp (disch := omega) only [wz, Int.reduceAdd, Int.reduceSub, Int.reduceMul, Int.reduceNeg, Int.zero_add, Int.add_zero, Int.sub_zero, Int.sub_self] at hc17
                                            conv => whnf
                                            refine ⟨ApOk.lit rfl, ?_⟩
                                            conv => whnf
                                            simp (disch := omega) only [wz, Int.reduceAdd, Int.reduceSub, Int.reduceMul, Int.reduceNeg, Int.zero_add, Int.add_zero, Int.sub_zero, Int.sub_self]
                                            conv => whnf
                                            refine ⟨by have h8 := withR_len n.s ((IntKind.i64.wrap (lastI n.l i0 + 1)).tmod 80) x true a; simp only [List.length_map, List.length_cons, List.length_nil]; omega, ?_⟩
                                            conv => whnf
                                            refine ⟨(a + 1), (by omega), (by omega), ?_⟩
                                            refine ⟨?_, ?_, ?_⟩
                                            · skip
                                              refine leEnv_app (by kernel_rfl) (by kernel_rfl) ?_
                                              repeat ((conv => whnf); first | exact True.intro | refine ⟨.rfl, ?_⟩ | refine ⟨.any, ?_⟩ | refine ⟨.nil, ?_⟩ | refine ⟨.int (by first | rfl | omega | (simp only [wrs]; omega)), ?_⟩)
                                            · skip
                                              repeat (first | exact LeVs.nil | ((conv => whnf); first | exact True.intro | exact .none | exact .row rfl | exact .row ((by rw [withR_t (by omega) rfl, List.map_append]; rfl : _ = _)) | refine .cells ?_ | refine ⟨_, _, rfl, .rfl, ?_⟩ | refine ⟨_, _, rfl, .any, ?_⟩ | refine ⟨_, _, rfl, .nil, ?_⟩ | refine ⟨_, _, rfl, .int (by first | rfl | omega | (simp only [wrs]; omega)), ?_⟩ | refine ⟨?_, ?_⟩))
                                              done
                                            · skip
                                              exact LeFr.same (by kernel_rfl)
                                          · skip
                                            try simp only [bls] at hc17
                                            try simp (disch := omega) only [wz, Int.reduceAdd, Int.reduceSub, Int.reduceMul, Int.reduceNeg, Int.zero_add, Int.add_zero, Int.sub_zero, Int.sub_self] at hc17
                                            conv => whnf
                                            refine ⟨ApOk.lit rfl, ?_⟩
                                            conv => whnf
                                            simp (disch := omega) only [wz, Int.reduceAdd, Int.reduceSub, Int.reduceMul, Int.reduceNeg, Int.zero_add, Int.add_zero, Int.sub_zero, Int.sub_self]
                                            conv => whnf
                                            refine ⟨by have h8 := withR_len n.s ((IntKind.i64.wrap (lastI n.l i0 + 1)).tmod 80) x true a; simp only [List.length_map, List.length_cons, List.length_nil]; omega, ?_⟩
                                            conv => whnf
                                            refine ⟨(a + 1), (by omega), (by omega), ?_⟩
                                            refine ⟨?_, ?_, ?_⟩
                                            · skip
                                              refine leEnv_app (by kernel_rfl) (by kernel_rfl) ?_
                                              repeat ((conv => whnf); first | exact True.intro | refine ⟨.rfl, ?_⟩ | refine ⟨.any, ?_⟩ | refine ⟨.nil, ?_⟩ | refine ⟨.int (by first | rfl | omega | (simp only [wrs]; omega)), ?_⟩)
                                            · skip
                                              repeat (first | exact LeVs.nil | ((conv => whnf); first | exact True.intro | exact .none | exact .row rfl | exact .row ((by rw [withR_c (by omega) hnc hy (by omega), List.map_append]; rfl : _ = _)) | refine .cells ?_ | refine ⟨_, _, rfl, .rfl, ?_⟩ | refine ⟨_, _, rfl, .any, ?_⟩ | refine ⟨_, _, rfl, .nil, ?_⟩ | refine ⟨_, _, rfl, .int (by first | rfl | omega | (simp only [wrs]; omega)), ?_⟩ | refine ⟨?_, ?_⟩))
                                              done
                                            · skip
                                              exact LeFr.same (by kernel_rfl)
                                        · skip
                                          try simp only [bls] at hc16
                                          conv => whnf
                                          refine ⟨(qc6 + 1), ⟨by omega, noCar_s hnc hy (by assumption)⟩, (by omega), ?_⟩
                                          refine ⟨?_, ?_, ?_⟩
                                          · skip
                                            refine leEnv_app (by kernel_rfl) (by kernel_rfl) ?_
                                            repeat ((conv => whnf); first | exact True.intro | refine ⟨.rfl, ?_⟩ | refine ⟨.any, ?_⟩ | refine ⟨.nil, ?_⟩ | refine ⟨.int (by first | rfl | omega | (simp only [wrs]; omega)), ?_⟩)
                                          · skip
                                            repeat (first | exact LeVs.nil | ((conv => whnf); first | exact True.intro | exact .none | exact .row rfl | refine .cells ?_ | refine ⟨_, _, rfl, .rfl, ?_⟩ | refine ⟨_, _, rfl, .any, ?_⟩ | refine ⟨_, _, rfl, .nil, ?_⟩ | refine ⟨_, _, rfl, .int (by first | rfl | omega | (simp only [wrs]; omega)), ?_⟩ | refine ⟨?_, ?_⟩))
                                            done
                                          · skip
                                            exact LeFr.same (by kernel_rfl)
                                      · skip
                                        try simp only [bls] at hc15
                                        conv => whnf
                                        refine ⟨.inr rfl, ?_⟩
                                        conv => whnf
                                        refine bS (fun hc18 => ?_) (fun hc18 => ?_)
                                        · skip
                                          try simp only [bls] at hc18
                                          try simp (disch := omega) only [wz, Int.reduceAdd, Int.reduceSub, Int.reduceMul, Int.reduceNeg, Int.zero_add, Int.add_zero, Int.sub_zero, Int.sub_self] at hc18
                                          conv => whnf
                                          refine ⟨ApOk.lit rfl, ?_⟩
                                          conv => whnf
                                          simp (disch := omega) only [wz, Int.reduceAdd, Int.reduceSub, Int.reduceMul, Int.reduceNeg, Int.zero_add, Int.add_zero, Int.sub_zero, Int.sub_self]
                                          conv => whnf
                                          refine ⟨by have h8 := withR_len n.s ((IntKind.i64.wrap (lastI n.l i0 + 1)).tmod 80) x true a; simp only [List.length_map, List.length_cons, List.length_nil]; omega, ?_⟩
                                          conv => whnf
                                          refine ⟨(a + 1), (by omega), (by omega), ?_⟩
                                          refine ⟨?_, ?_, ?_⟩
                                          · skip
                                            refine leEnv_app (by kernel_rfl) (by kernel_rfl) ?_
                                            repeat ((conv => whnf); first | exact True.intro | refine ⟨.rfl, ?_⟩ | refine ⟨.any, ?_⟩ | refine ⟨.nil, ?_⟩ | refine ⟨.int (by first | rfl | omega | (simp only [wrs]; omega)), ?_⟩)
                                          · skip
                                            repeat (first | exact LeVs.nil | ((conv => whnf); first | exact True.intro | exact .none | exact .row rfl | exact .row ((by rw [withR_t (by omega) rfl, List.map_append]; rfl : _ = _)) | refine .cells ?_ | refine ⟨_, _, rfl, .rfl, ?_⟩ | refine ⟨_, _, rfl, .any, ?_⟩ | refine ⟨_, _, rfl, .nil, ?_⟩ | refine ⟨_, _, rfl, .int (by first | rfl | omega | (simp only [wrs]; omega)), ?_⟩ | refine ⟨?_, ?_⟩))
                                            done
                                          · skip
                                            exact LeFr.same (by kernel_rfl)
                                        · skip
                                          try simp only [bls] at hc18
                                          try simp (disch := omega) only [wz, Int.reduceAdd, Int.reduceSub, Int.reduceMul, Int.reduceNeg, Int.zero_add, Int.add_zero, Int.sub_zero, Int.sub_self] at hc18
                                          conv => whnf
                                          refine ⟨(a + 1), (by omega), (by omega), ?_⟩
                                          refine ⟨?_, ?_, ?_⟩
                                          · skip
                                            refine leEnv_app (by kernel_rfl) (by kernel_rfl) ?_
                                            repeat ((conv => whnf); first | exact True.intro | refine ⟨.rfl, ?_⟩ | refine ⟨.any, ?_⟩ | refine ⟨.nil, ?_⟩ | refine ⟨.int (by first | rfl | omega | (simp only [wrs]; omega)), ?_⟩)
                                          · skip
                                            repeat (first | exact LeVs.nil | ((conv => whnf); first | exact True.intro | exact .none | exact .row rfl | exact .row ((by rw [withR_f (by omega) hnc (by omega)] : _ = _)) | refine .cells ?_ | refine ⟨_, _, rfl, .rfl, ?_⟩ | refine ⟨_, _, rfl, .any, ?_⟩ | refine ⟨_, _, rfl, .nil, ?_⟩ | refine ⟨_, _, rfl, .int (by first | rfl | omega | (simp only [wrs]; omega)), ?_⟩ | refine ⟨?_, ?_⟩))
                                            done
                                          · skip
                                            exact LeFr.same (by kernel_rfl)
                                  · skip
                                    obtain rfl : a = 80 := by omega
                                    conv => whnf
                                    refine ⟨.inr rfl, ?_⟩
                                    conv => whnf
                                    refine ⟨.inr rfl, ?_⟩
                                    conv => whnf
                                    refine ⟨(false, true, (true, true, true), (true, false, false), (true, false, false)), trivial, [19, 29], ?_⟩
                                    conv => whnf
                                    conv => whnf
                                    show LeX _ _ _ _ _ _
                                    refine ⟨?_, ?_, ?_⟩
                                    · skip
                                      refine leEnv_app (by kernel_rfl) (by kernel_rfl) ?_
                                      repeat ((conv => whnf); first | exact True.intro | refine ⟨.rfl, ?_⟩ | refine ⟨.any, ?_⟩ | refine ⟨.nil, ?_⟩ | refine ⟨.int (by first | rfl | omega | (simp only [wrs]; omega)), ?_⟩ | refine ⟨.int (by rfl), ?_⟩ | refine ⟨.tv (by rw [with_del hsl hx]), ?_⟩ | refine ⟨.tv (by rw [lastI_s hrl (by omega), with_ins hsl (slotN_way _ _) hi1]), ?_⟩ | refine ⟨.int (lastI_s hrl (by omega)), ?_⟩)
                                    · skip
                                      repeat (first | exact LeVs.nil | ((conv => whnf); first | exact True.intro | exact .none | exact .row rfl | refine .cells ?_ | refine ⟨_, _, rfl, .rfl, ?_⟩ | refine ⟨_, _, rfl, .any, ?_⟩ | refine ⟨_, _, rfl, .nil, ?_⟩ | refine ⟨_, _, rfl, .int (by first | rfl | omega | (simp only [wrs]; omega)), ?_⟩ | refine ⟨_, _, rfl, .int (by rfl), ?_⟩ | refine ⟨_, _, rfl, .tv (by rw [with_del hsl hx]), ?_⟩ | refine ⟨_, _, rfl, .tv (by rw [lastI_s hrl (by omega), with_ins hsl (slotN_way _ _) hi1]), ?_⟩ | refine ⟨_, _, rfl, .int (lastI_s hrl (by omega)), ?_⟩ | refine ⟨?_, ?_⟩))
                                      done
                                    · skip
                                      exact LeFr.same (by kernel_rfl)
                          · skip
                            exact absurd (all_full hsl fun j hj => h2 j (by omega)) hf
                  · skip
                    try simp only [bls] at hc8
                    conv => whnf
                    refine ⟨(qc3 + 1), ⟨by omega, noCar_s hnc hy (by assumption)⟩, (by omega), ?_⟩
                    refine ⟨?_, ?_, ?_⟩
                    · skip
                      refine leEnv_app (by kernel_rfl) (by kernel_rfl) ?_
                      repeat ((conv => whnf); first | exact True.intro | refine ⟨.rfl, ?_⟩ | refine ⟨.any, ?_⟩ | refine ⟨.nil, ?_⟩ | refine ⟨.int (by first | rfl | omega | (simp only [wrs]; omega)), ?_⟩)
                    · skip
                      repeat (first | exact LeVs.nil | ((conv => whnf); first | exact True.intro | exact .none | exact .row rfl | refine .cells ?_ | refine ⟨_, _, rfl, .rfl, ?_⟩ | refine ⟨_, _, rfl, .any, ?_⟩ | refine ⟨_, _, rfl, .nil, ?_⟩ | refine ⟨_, _, rfl, .int (by first | rfl | omega | (simp only [wrs]; omega)), ?_⟩ | refine ⟨?_, ?_⟩))
                      done
                    · skip
                      exact LeFr.same (by kernel_rfl)
                · skip
                  try simp only [bls] at hc7
                  conv => whnf
                  refine ⟨.inr rfl, ?_⟩
                  conv => whnf
                  refine ⟨(i + 1), ⟨by omega, fun j hj => by rcases Nat.lt_or_ge j i with h8 | h8; exact h2 j h8; obtain rfl : j = i := (by omega); exact car_f hnc (by omega)⟩, (by omega), ?_⟩
                  refine ⟨?_, ?_, ?_⟩
                  · skip
                    refine leEnv_app (by kernel_rfl) (by kernel_rfl) ?_
                    repeat ((conv => whnf); first | exact True.intro | refine ⟨.rfl, ?_⟩ | refine ⟨.any, ?_⟩ | refine ⟨.nil, ?_⟩ | refine ⟨.int (by first | rfl | omega | (simp only [wrs]; omega)), ?_⟩ | refine ⟨.int (meant_0 hp), ?_⟩ | refine ⟨.int (meant_0 hp).symm, ?_⟩ | refine ⟨.int meant_s, ?_⟩ | refine ⟨.int meant_s.symm, ?_⟩)
                  · skip
                    repeat (first | exact LeVs.nil | ((conv => whnf); first | exact True.intro | exact .none | exact .row rfl | refine .cells ?_ | refine ⟨_, _, rfl, .rfl, ?_⟩ | refine ⟨_, _, rfl, .any, ?_⟩ | refine ⟨_, _, rfl, .nil, ?_⟩ | refine ⟨_, _, rfl, .int (by first | rfl | omega | (simp only [wrs]; omega)), ?_⟩ | refine ⟨_, _, rfl, .int (meant_0 hp), ?_⟩ | refine ⟨_, _, rfl, .int (meant_0 hp).symm, ?_⟩ | refine ⟨_, _, rfl, .int meant_s, ?_⟩ | refine ⟨_, _, rfl, .int meant_s.symm, ?_⟩ | refine ⟨?_, ?_⟩))
                    done
                  · skip
                    exact LeFr.same (by kernel_rfl)
            · skip
              exact (meant_no hp hK fun q hq => h2 q (by omega)).elim
        · skip
          have hxb := hsz.b x (List.mem_of_getElem? hx)
          have hsl := right_S hr
          have hrl := (right_of hr).l
          obtain rfl := hM.trans h1
          obtain rfl := hD.trans h2
          obtain rfl := hL.trans h3
          obtain rfl := hB.trans h4
          conv => whnf
          refine XT.pass tabX_ok ?_
          conv => whnf
          refine ⟨by assumption, ?_⟩
          conv => whnf
          refine .inl ?_
          conv => whnf
          refine InlG.mk (by kernel_rfl) Try.func33 rfl (Nat.le_of_ble_eq_true rfl) (XT.of tabX_ok ?_)
          conv => whnf
          refine XT.tidy ?_
          conv => whnf
          refine XT.loop tabX_ok (Y := Nat) [5, 6, 7, 10, 11, 12, 13, 14, 15, 16, 17, 18, 19, 20, 21, 22, 23, 24, 25] (fun i => [(5, .p (.v (.int .i64 (mtN p i))) (nlv _)), (10, .p (.v (.int .i64 ((i : Int)))) (nlv _))]) (fun i => []) (fun i => i ≤ 80 ∧ ∀ j, j < i → hasS n.s (mtN p j) = false) (fun i => 80 - i) 0 ⟨by omega, fun j hj => by omega⟩ ?_ ?_
          · skip
            refine ⟨?_, ?_, ?_⟩
            · skip
              refine leEnv_app (by kernel_rfl) (by kernel_rfl) ?_
              repeat ((conv => whnf); first | exact True.intro | refine ⟨.rfl, ?_⟩ | refine ⟨.any, ?_⟩ | refine ⟨.nil, ?_⟩ | refine ⟨.int (by first | rfl | omega | (simp only [wrs]; omega)), ?_⟩ | refine ⟨.int (meant_0 hp), ?_⟩ | refine ⟨.int (meant_0 hp).symm, ?_⟩ | refine ⟨.int meant_s, ?_⟩ | refine ⟨.int meant_s.symm, ?_⟩)
            · skip
              repeat (first | exact LeVs.nil | ((conv => whnf); first | exact True.intro | exact .none | exact .row rfl | refine .cells ?_ | refine ⟨_, _, rfl, .rfl, ?_⟩ | refine ⟨_, _, rfl, .any, ?_⟩ | refine ⟨_, _, rfl, .nil, ?_⟩ | refine ⟨_, _, rfl, .int (by first | rfl | omega | (simp only [wrs]; omega)), ?_⟩ | refine ⟨_, _, rfl, .int (meant_0 hp), ?_⟩ | refine ⟨_, _, rfl, .int (meant_0 hp).symm, ?_⟩ | refine ⟨_, _, rfl, .int meant_s, ?_⟩ | refine ⟨_, _, rfl, .int meant_s.symm, ?_⟩ | refine ⟨?_, ?_⟩))
              done
            · skip
              exact LeFr.same (by kernel_rfl)
          · skip
            rintro i ⟨hi, h2⟩
            rcases Nat.lt_or_ge i 80 with hi8 | hi8
            · skip
              conv => whnf
              refine bT (decide_eq_true (by omega)) ?_
              conv => whnf
              refine .inl ?_
              conv => whnf
              refine InlG.mk (by kernel_rfl) Try.func60 rfl (Nat.le_of_ble_eq_true rfl) (XT.of tabX_ok ?_)
              conv => whnf
              refine XT.tidy ?_
              conv => whnf
              refine XT.loop tabX_ok (Y := Nat) [5, 7, 11, 12, 13, 14, 15, 16, 17, 18, 19, 20, 21] (fun qc7 => [(11, .p (.v (.int .i64 ((qc7 : Int)))) (nlv _))]) (fun qc7 => []) (fun qc7 => qc7 ≤ n.s.length ∧ noCar n.s (mtN p i) qc7) (fun qc7 => n.s.length - qc7) 0 ⟨Nat.zero_le _, noCar_0 _ _⟩ ?_ ?_
              · skip
                refine ⟨?_, ?_, ?_⟩
                · skip
                  refine leEnv_app (by kernel_rfl) (by kernel_rfl) ?_
                  repeat ((conv => whnf); first | exact True.intro | refine ⟨.rfl, ?_⟩ | refine ⟨.any, ?_⟩ | refine ⟨.nil, ?_⟩ | refine ⟨.int (by first | rfl | omega | (simp only [wrs]; omega)), ?_⟩)
                · skip
                  repeat (first | exact LeVs.nil | ((conv => whnf); first | exact True.intro | exact .none | exact .row rfl | refine .cells ?_ | refine ⟨_, _, rfl, .rfl, ?_⟩ | refine ⟨_, _, rfl, .any, ?_⟩ | refine ⟨_, _, rfl, .nil, ?_⟩ | refine ⟨_, _, rfl, .int (by first | rfl | omega | (simp only [wrs]; omega)), ?_⟩ | refine ⟨?_, ?_⟩))
                  done
                · skip
                  exact LeFr.same (by kernel_rfl)
              · skip
                rintro qc7 ⟨hqc7, hnc⟩
                conv => whnf
                refine bS (fun hc19 => ?_) (fun hc19 => ?_)
                · skip
                  try simp only [bls] at hc19
                  conv => whnf
                  refine IdxG.map (l := n.s) _ rfl (by first | omega | (simp only [List.length_map] at *; omega)) ?_; intro y hy hny
                  conv => whnf
                  refine ⟨rfl, ?_⟩
                  conv => whnf
                  refine bS (fun hc20 => ?_) (fun hc20 => ?_)
                  · skip
                    try simp only [bls] at hc20
                    conv => whnf
                    obtain rfl : x = y := (meant_is hsl hp hK hx hi8 h2 hy hc20).symm
                    rw [← hc20]
                    conv => whnf
                    refine ⟨.inr rfl, ?_⟩
                    conv => whnf
                    refine ⟨.inr rfl, ?_⟩
                    conv => whnf
                    refine ⟨by assumption, ?_⟩
                    conv => whnf
                    refine .inl ?_
                    conv => whnf
                    refine InlG.mk (by kernel_rfl) Try.func34 rfl (Nat.le_of_ble_eq_true rfl) (XT.of tabX_ok ?_)
                    conv => whnf
                    refine XT.nilr 9 65 4 rfl rfl ?_
                    conv => whnf
                    refine XT.tidy ?_
                    conv => whnf
                    refine XT.loop tabX_ok (Y := Nat) [9, 10, 11, 12, 13, 14, 15, 16, 17, 18, 19, 20, 21, 22, 23, 24, 25, 26, 27, 28, 29, 30, 31, 32, 33, 34] (fun a => [(13, .p (.v (.int .i64 ((a : Int)))) (nlv _)), (9, .row 19)]) (fun a => [(19, .row 65 4 ((withR n.s (x.a) sl0 false a).map (slC false)) (nl_sl _ _))]) (fun a => a ≤ 80) (fun a => 80 - a) 0 (Nat.zero_le _) ?_ ?_
                    · skip
                      refine ⟨?_, ?_, ?_⟩
                      · skip
                        refine leEnv_app (by kernel_rfl) (by kernel_rfl) ?_
                        repeat ((conv => whnf); first | exact True.intro | refine ⟨.rfl, ?_⟩ | refine ⟨.any, ?_⟩ | refine ⟨.nil, ?_⟩ | refine ⟨.int (by first | rfl | omega | (simp only [wrs]; omega)), ?_⟩)
                      · skip
                        repeat (first | exact LeVs.nil | ((conv => whnf); first | exact True.intro | exact .none | exact .row rfl | refine .cells ?_ | refine ⟨_, _, rfl, .rfl, ?_⟩ | refine ⟨_, _, rfl, .any, ?_⟩ | refine ⟨_, _, rfl, .nil, ?_⟩ | refine ⟨_, _, rfl, .int (by first | rfl | omega | (simp only [wrs]; omega)), ?_⟩ | refine ⟨?_, ?_⟩))
                        done
                      · skip
                        exact LeFr.same (by kernel_rfl)
                    · skip
                      rintro a ha
                      rcases Nat.lt_or_ge a 80 with ha8 | ha8
                      · skip
                        conv => whnf
                        refine bT (decide_eq_true (by omega)) ?_
                        conv => whnf
                        refine .inl ?_
                        conv => whnf
                        refine InlG.mk (by kernel_rfl) Try.func60 rfl (Nat.le_of_ble_eq_true rfl) (XT.of tabX_ok ?_)
                        conv => whnf
                        refine XT.tidy ?_
                        conv => whnf
                        refine XT.loop tabX_ok (Y := Nat) [5, 7, 11, 12, 13, 14, 15, 16, 17, 18, 19, 20, 21] (fun qc8 => [(11, .p (.v (.int .i64 ((qc8 : Int)))) (nlv _))]) (fun qc8 => []) (fun qc8 => qc8 ≤ n.s.length ∧ noCar n.s ((↑a : Int)) qc8) (fun qc8 => n.s.length - qc8) 0 ⟨Nat.zero_le _, noCar_0 _ _⟩ ?_ ?_
                        · skip
                          refine ⟨?_, ?_, ?_⟩
                          · skip
                            refine leEnv_app (by kernel_rfl) (by kernel_rfl) ?_
                            repeat ((conv => whnf); first | exact True.intro | refine ⟨.rfl, ?_⟩ | refine ⟨.any, ?_⟩ | refine ⟨.nil, ?_⟩ | refine ⟨.int (by first | rfl | omega | (simp only [wrs]; omega)), ?_⟩)
                          · skip
                            repeat (first | exact LeVs.nil | ((conv => whnf); first | exact True.intro | exact .none | exact .row rfl | refine .cells ?_ | refine ⟨_, _, rfl, .rfl, ?_⟩ | refine ⟨_, _, rfl, .any, ?_⟩ | refine ⟨_, _, rfl, .nil, ?_⟩ | refine ⟨_, _, rfl, .int (by first | rfl | omega | (simp only [wrs]; omega)), ?_⟩ | refine ⟨?_, ?_⟩))
                            done
                          · skip
                            exact LeFr.same (by kernel_rfl)
                        · skip
                          rintro qc8 ⟨hqc8, hnc⟩
                          conv => whnf
                          refine bS (fun hc21 => ?_) (fun hc21 => ?_)
                          · skip
                            try simp only [bls] at hc21
                            conv => whnf
                            refine IdxG.map (l := n.s) _ rfl (by first | omega | (simp only [List.length_map] at *; omega)) ?_; intro y hy hny
                            conv => whnf
                            refine ⟨rfl, ?_⟩
                            conv => whnf
                            refine bS (fun hc22 => ?_) (fun hc22 => ?_)
                            · skip
                              try simp only [bls] at hc22
                              conv => whnf
                              refine ⟨.inr rfl, ?_⟩
                              conv => whnf
                              refine bS (fun hc23 => ?_) (fun hc23 => ?_)
                              · skip
                                try simp only [bls] at hc23
                                conv => whnf
                                refine ⟨(a + 1), (by omega), (by omega), ?_⟩
                                refine ⟨?_, ?_, ?_⟩
                                · skip
                                  refine leEnv_app (by kernel_rfl) (by kernel_rfl) ?_
                                  repeat ((conv => whnf); first | exact True.intro | refine ⟨.rfl, ?_⟩ | refine ⟨.any, ?_⟩ | refine ⟨.nil, ?_⟩ | refine ⟨.int (by first | rfl | omega | (simp only [wrs]; omega)), ?_⟩)
                                · skip
                                  repeat (first | exact LeVs.nil | ((conv => whnf); first | exact True.intro | exact .none | exact .row rfl | exact .row ((by rw [withR_n (by omega) rfl] : _ = _)) | refine .cells ?_ | refine ⟨_, _, rfl, .rfl, ?_⟩ | refine ⟨_, _, rfl, .any, ?_⟩ | refine ⟨_, _, rfl, .nil, ?_⟩ | refine ⟨_, _, rfl, .int (by first | rfl | omega | (simp only [wrs]; omega)), ?_⟩ | refine ⟨?_, ?_⟩))
                                  done
                                · skip
                                  exact LeFr.same (by kernel_rfl)
                              · skip
                                try simp only [bls] at hc23
                                conv => whnf
                                refine ⟨ApOk.lit rfl, ?_⟩
                                conv => whnf
                                refine ⟨by have h8 := withR_len n.s x.a sl0 false a; simp only [List.length_map, List.length_cons, List.length_nil]; omega, ?_⟩
                                conv => whnf
                                refine ⟨(a + 1), (by omega), (by omega), ?_⟩
                                refine ⟨?_, ?_, ?_⟩
                                · skip
                                  refine leEnv_app (by kernel_rfl) (by kernel_rfl) ?_
                                  repeat ((conv => whnf); first | exact True.intro | refine ⟨.rfl, ?_⟩ | refine ⟨.any, ?_⟩ | refine ⟨.nil, ?_⟩ | refine ⟨.int (by first | rfl | omega | (simp only [wrs]; omega)), ?_⟩)
                                · skip
                                  repeat (first | exact LeVs.nil | ((conv => whnf); first | exact True.intro | exact .none | exact .row rfl | exact .row ((by rw [withR_c (by omega) hnc hy (by omega), List.map_append]; rfl : _ = _)) | refine .cells ?_ | refine ⟨_, _, rfl, .rfl, ?_⟩ | refine ⟨_, _, rfl, .any, ?_⟩ | refine ⟨_, _, rfl, .nil, ?_⟩ | refine ⟨_, _, rfl, .int (by first | rfl | omega | (simp only [wrs]; omega)), ?_⟩ | refine ⟨?_, ?_⟩))
                                  done
                                · skip
                                  exact LeFr.same (by kernel_rfl)
                            · skip
                              try simp only [bls] at hc22
                              conv => whnf
                              refine ⟨(qc8 + 1), ⟨by omega, noCar_s hnc hy (by assumption)⟩, (by omega), ?_⟩
                              refine ⟨?_, ?_, ?_⟩
                              · skip
                                refine leEnv_app (by kernel_rfl) (by kernel_rfl) ?_
                                repeat ((conv => whnf); first | exact True.intro | refine ⟨.rfl, ?_⟩ | refine ⟨.any, ?_⟩ | refine ⟨.nil, ?_⟩ | refine ⟨.int (by first | rfl | omega | (simp only [wrs]; omega)), ?_⟩)
                              · skip
                                repeat (first | exact LeVs.nil | ((conv => whnf); first | exact True.intro | exact .none | exact .row rfl | refine .cells ?_ | refine ⟨_, _, rfl, .rfl, ?_⟩ | refine ⟨_, _, rfl, .any, ?_⟩ | refine ⟨_, _, rfl, .nil, ?_⟩ | refine ⟨_, _, rfl, .int (by first | rfl | omega | (simp only [wrs]; omega)), ?_⟩ | refine ⟨?_, ?_⟩))
                                done
                              · skip
                                exact LeFr.same (by kernel_rfl)
                          · skip
                            try simp only [bls] at hc21
                            conv => whnf
                            refine ⟨.inr rfl, ?_⟩
                            conv => whnf
                            refine bS (fun hc24 => ?_) (fun hc24 => ?_)
                            · skip
                              try simp only [bls] at hc24
                              conv => whnf
                              refine ⟨(a + 1), (by omega), (by omega), ?_⟩
                              refine ⟨?_, ?_, ?_⟩
                              · skip
                                refine leEnv_app (by kernel_rfl) (by kernel_rfl) ?_
                                repeat ((conv => whnf); first | exact True.intro | refine ⟨.rfl, ?_⟩ | refine ⟨.any, ?_⟩ | refine ⟨.nil, ?_⟩ | refine ⟨.int (by first | rfl | omega | (simp only [wrs]; omega)), ?_⟩)
                              · skip
                                repeat (first | exact LeVs.nil | ((conv => whnf); first | exact True.intro | exact .none | exact .row rfl | exact .row ((by rw [withR_n (by omega) rfl] : _ = _)) | refine .cells ?_ | refine ⟨_, _, rfl, .rfl, ?_⟩ | refine ⟨_, _, rfl, .any, ?_⟩ | refine ⟨_, _, rfl, .nil, ?_⟩ | refine ⟨_, _, rfl, .int (by first | rfl | omega | (simp only [wrs]; omega)), ?_⟩ | refine ⟨?_, ?_⟩))
                                done
                              · skip
                                exact LeFr.same (by kernel_rfl)
                            · skip
                              try simp only [bls] at hc24
                              conv => whnf
                              refine ⟨(a + 1), (by omega), (by omega), ?_⟩
                              refine ⟨?_, ?_, ?_⟩
                              · skip
                                refine leEnv_app (by kernel_rfl) (by kernel_rfl) ?_
                                repeat ((conv => whnf); first | exact True.intro | refine ⟨.rfl, ?_⟩ | refine ⟨.any, ?_⟩ | refine ⟨.nil, ?_⟩ | refine ⟨.int (by first | rfl | omega | (simp only [wrs]; omega)), ?_⟩)
                              · skip
                                repeat (first | exact LeVs.nil | ((conv => whnf); first | exact True.intro | exact .none | exact .row rfl | exact .row ((by rw [withR_f (by omega) hnc (by omega)] : _ = _)) | refine .cells ?_ | refine ⟨_, _, rfl, .rfl, ?_⟩ | refine ⟨_, _, rfl, .any, ?_⟩ | refine ⟨_, _, rfl, .nil, ?_⟩ | refine ⟨_, _, rfl, .int (by first | rfl | omega | (simp only [wrs]; omega)), ?_⟩ | refine ⟨?_, ?_⟩))
                                done
                              · skip
                                exact LeFr.same (by kernel_rfl)
                      · skip
                        obtain rfl : a = 80 := by omega
                        conv => whnf
                        refine ⟨.inr rfl, ?_⟩
                        conv => whnf
                        refine RegG.late 6 [(6, 0, 4), (7, 0, 3)] (by kernel_rfl) ?_
                        conv => whnf
                        refine ⟨rfl, ?_⟩
                        conv => whnf
                        refine ⟨rfl, ?_⟩
                        conv => whnf
                        refine ⟨by assumption, ?_⟩
                        conv => whnf
                        refine .ct ?_
                        conv => whnf
                        refine CallG.mk (deaf_X _ _ _ n x.f x.t (by omega)) rfl ?_
                        conv => whnf
                        refine bF (decide_eq_false hm) ?_
                        conv => whnf
                        refine ⟨by assumption, ?_⟩
                        conv => whnf
                        refine .ct ?_
                        conv => whnf
                        refine CallG.mk (full_X _ _ _ n) rfl ?_
                        conv => whnf
                        refine bF (by simp [hf]; done) ?_
                        conv => whnf
                        refine ⟨(false, false, (true, false, false), (true, false, false), (true, true, true)), trivial, [19], ?_⟩
                        conv => whnf
                        show LeX _ _ _ _ _ _
                        refine ⟨?_, ?_, ?_⟩
                        · skip
                          refine leEnv_app (by kernel_rfl) (by kernel_rfl) ?_
                          repeat ((conv => whnf); first | exact True.intro | refine ⟨.rfl, ?_⟩ | refine ⟨.any, ?_⟩ | refine ⟨.nil, ?_⟩ | refine ⟨.int (by first | rfl | omega | (simp only [wrs]; omega)), ?_⟩ | refine ⟨.int (by rfl), ?_⟩ | refine ⟨.tv (by rw [with_del hsl hx]), ?_⟩ | refine ⟨.tv (by rw [lastI_s hrl (by omega), with_ins hsl (slotN_way _ _) hi1]), ?_⟩ | refine ⟨.int (lastI_s hrl (by omega)), ?_⟩)
                        · skip
                          repeat (first | exact LeVs.nil | ((conv => whnf); first | exact True.intro | exact .none | exact .row rfl | refine .cells ?_ | refine ⟨_, _, rfl, .rfl, ?_⟩ | refine ⟨_, _, rfl, .any, ?_⟩ | refine ⟨_, _, rfl, .nil, ?_⟩ | refine ⟨_, _, rfl, .int (by first | rfl | omega | (simp only [wrs]; omega)), ?_⟩ | refine ⟨_, _, rfl, .int (by rfl), ?_⟩ | refine ⟨_, _, rfl, .tv (by rw [with_del hsl hx]), ?_⟩ | refine ⟨_, _, rfl, .tv (by rw [lastI_s hrl (by omega), with_ins hsl (slotN_way _ _) hi1]), ?_⟩ | refine ⟨_, _, rfl, .int (lastI_s hrl (by omega)), ?_⟩ | refine ⟨?_, ?_⟩))
                          done
                        · skip
                          exact LeFr.same (by kernel_rfl)
                  · skip
                    try simp only [bls] at hc20
                    conv => whnf
                    refine ⟨(qc7 + 1), ⟨by omega, noCar_s hnc hy (by assumption)⟩, (by omega), ?_⟩
                    refine ⟨?_, ?_, ?_⟩
                    · skip
                      refine leEnv_app (by kernel_rfl) (by kernel_rfl) ?_
                      repeat ((conv => whnf); first | exact True.intro | refine ⟨.rfl, ?_⟩ | refine ⟨.any, ?_⟩ | refine ⟨.nil, ?_⟩ | refine ⟨.int (by first | rfl | omega | (simp only [wrs]; omega)), ?_⟩)
                    · skip
                      repeat (first | exact LeVs.nil | ((conv => whnf); first | exact True.intro | exact .none | exact .row rfl | refine .cells ?_ | refine ⟨_, _, rfl, .rfl, ?_⟩ | refine ⟨_, _, rfl, .any, ?_⟩ | refine ⟨_, _, rfl, .nil, ?_⟩ | refine ⟨_, _, rfl, .int (by first | rfl | omega | (simp only [wrs]; omega)), ?_⟩ | refine ⟨?_, ?_⟩))
                      done
                    · skip
                      exact LeFr.same (by kernel_rfl)
                · skip
                  try simp only [bls] at hc19
                  conv => whnf
                  refine ⟨.inr rfl, ?_⟩
                  conv => whnf
                  refine ⟨(i + 1), ⟨by omega, fun j hj => by rcases Nat.lt_or_ge j i with h8 | h8; exact h2 j h8; obtain rfl : j = i := (by omega); exact car_f hnc (by omega)⟩, (by omega), ?_⟩
                  refine ⟨?_, ?_, ?_⟩
                  · skip
                    refine leEnv_app (by kernel_rfl) (by kernel_rfl) ?_
                    repeat ((conv => whnf); first | exact True.intro | refine ⟨.rfl, ?_⟩ | refine ⟨.any, ?_⟩ | refine ⟨.nil, ?_⟩ | refine ⟨.int (by first | rfl | omega | (simp only [wrs]; omega)), ?_⟩ | refine ⟨.int (meant_0 hp), ?_⟩ | refine ⟨.int (meant_0 hp).symm, ?_⟩ | refine ⟨.int meant_s, ?_⟩ | refine ⟨.int meant_s.symm, ?_⟩)
                  · skip
                    repeat (first | exact LeVs.nil | ((conv => whnf); first | exact True.intro | exact .none | exact .row rfl | refine .cells ?_ | refine ⟨_, _, rfl, .rfl, ?_⟩ | refine ⟨_, _, rfl, .any, ?_⟩ | refine ⟨_, _, rfl, .nil, ?_⟩ | refine ⟨_, _, rfl, .int (by first | rfl | omega | (simp only [wrs]; omega)), ?_⟩ | refine ⟨_, _, rfl, .int (meant_0 hp), ?_⟩ | refine ⟨_, _, rfl, .int (meant_0 hp).symm, ?_⟩ | refine ⟨_, _, rfl, .int meant_s, ?_⟩ | refine ⟨_, _, rfl, .int meant_s.symm, ?_⟩ | refine ⟨?_, ?_⟩))
                    done
                  · skip
                    exact LeFr.same (by kernel_rfl)
            · skip
              exact (meant_no hp hK fun q hq => h2 q (by omega)).elim
        · skip
          have hxb := hsz.b x (List.mem_of_getElem? hx)
          have hsl := right_S hr
          have hrl := (right_of hr).l
          obtain rfl := hM.trans h1
          obtain rfl := hD.trans h2
          obtain rfl := hL.trans h3
          obtain rfl := hB.trans h4
          conv => whnf
          refine XT.pass tabX_ok ?_
          conv => whnf
          refine ⟨by assumption, ?_⟩
          conv => whnf
          refine .inl ?_
          conv => whnf
          refine InlG.mk (by kernel_rfl) Try.func33 rfl (Nat.le_of_ble_eq_true rfl) (XT.of tabX_ok ?_)
          conv => whnf
          refine XT.tidy ?_
          conv => whnf
          refine XT.loop tabX_ok (Y := Nat) [5, 6, 7, 10, 11, 12, 13, 14, 15, 16, 17, 18, 19, 20, 21, 22, 23, 24, 25] (fun i => [(5, .p (.v (.int .i64 (mtN p i))) (nlv _)), (10, .p (.v (.int .i64 ((i : Int)))) (nlv _))]) (fun i => []) (fun i => i ≤ 80 ∧ ∀ j, j < i → hasS n.s (mtN p j) = false) (fun i => 80 - i) 0 ⟨by omega, fun j hj => by omega⟩ ?_ ?_
          · skip
            refine ⟨?_, ?_, ?_⟩
            · skip
              refine leEnv_app (by kernel_rfl) (by kernel_rfl) ?_
              repeat ((conv => whnf); first | exact True.intro | refine ⟨.rfl, ?_⟩ | refine ⟨.any, ?_⟩ | refine ⟨.nil, ?_⟩ | refine ⟨.int (by first | rfl | omega | (simp only [wrs]; omega)), ?_⟩ | refine ⟨.int (meant_0 hp), ?_⟩ | refine ⟨.int (meant_0 hp).symm, ?_⟩ | refine ⟨.int meant_s, ?_⟩ | refine ⟨.int meant_s.symm, ?_⟩)
            · skip
              repeat (first | exact LeVs.nil | ((conv => whnf); first | exact True.intro | exact .none | exact .row rfl | refine .cells ?_ | refine ⟨_, _, rfl, .rfl, ?_⟩ | refine ⟨_, _, rfl, .any, ?_⟩ | refine ⟨_, _, rfl, .nil, ?_⟩ | refine ⟨_, _, rfl, .int (by first | rfl | omega | (simp only [wrs]; omega)), ?_⟩ | refine ⟨_, _, rfl, .int (meant_0 hp), ?_⟩ | refine ⟨_, _, rfl, .int (meant_0 hp).symm, ?_⟩ | refine ⟨_, _, rfl, .int meant_s, ?_⟩ | refine ⟨_, _, rfl, .int meant_s.symm, ?_⟩ | refine ⟨?_, ?_⟩))
              done
            · skip
              exact LeFr.same (by kernel_rfl)
          · skip
            rintro i ⟨hi, h2⟩
            rcases Nat.lt_or_ge i 80 with hi8 | hi8
            · skip
              conv => whnf
              refine bT (decide_eq_true (by omega)) ?_
              conv => whnf
              refine .inl ?_
              conv => whnf
              refine InlG.mk (by kernel_rfl) Try.func60 rfl (Nat.le_of_ble_eq_true rfl) (XT.of tabX_ok ?_)
              conv => whnf
              refine XT.tidy ?_
              conv => whnf
              refine XT.loop tabX_ok (Y := Nat) [5, 7, 11, 12, 13, 14, 15, 16, 17, 18, 19, 20, 21] (fun qc9 => [(11, .p (.v (.int .i64 ((qc9 : Int)))) (nlv _))]) (fun qc9 => []) (fun qc9 => qc9 ≤ n.s.length ∧ noCar n.s (mtN p i) qc9) (fun qc9 => n.s.length - qc9) 0 ⟨Nat.zero_le _, noCar_0 _ _⟩ ?_ ?_
              · skip
                refine ⟨?_, ?_, ?_⟩
                · skip
                  refine leEnv_app (by kernel_rfl) (by kernel_rfl) ?_
                  repeat ((conv => whnf); first | exact True.intro | refine ⟨.rfl, ?_⟩ | refine ⟨.any, ?_⟩ | refine ⟨.nil, ?_⟩ | refine ⟨.int (by first | rfl | omega | (simp only [wrs]; omega)), ?_⟩)
                · skip
                  repeat (first | exact LeVs.nil | ((conv => whnf); first | exact True.intro | exact .none | exact .row rfl | refine .cells ?_ | refine ⟨_, _, rfl, .rfl, ?_⟩ | refine ⟨_, _, rfl, .any, ?_⟩ | refine ⟨_, _, rfl, .nil, ?_⟩ | refine ⟨_, _, rfl, .int (by first | rfl | omega | (simp only [wrs]; omega)), ?_⟩ | refine ⟨?_, ?_⟩))
                  done
                · skip
                  exact LeFr.same (by kernel_rfl)
              · skip
                rintro qc9 ⟨hqc9, hnc⟩
                conv => whnf
                refine bS (fun hc25 => ?_) (fun hc25 => ?_)
                · skip
                  try simp only [bls] at hc25
                  conv => whnf
                  refine IdxG.map (l := n.s) _ rfl (by first | omega | (simp only [List.length_map] at *; omega)) ?_; intro y hy hny
                  conv => whnf
                  refine ⟨rfl, ?_⟩
                  conv => whnf
                  refine bS (fun hc26 => ?_) (fun hc26 => ?_)
                  · skip
                    try simp only [bls] at hc26
                    conv => whnf
                    obtain rfl : x = y := (meant_is hsl hp hK hx hi8 h2 hy hc26).symm
                    rw [← hc26]
                    conv => whnf
                    refine ⟨.inr rfl, ?_⟩
                    conv => whnf
                    refine ⟨.inr rfl, ?_⟩
                    conv => whnf
                    refine ⟨by assumption, ?_⟩
                    conv => whnf
                    refine .inl ?_
                    conv => whnf
                    refine InlG.mk (by kernel_rfl) Try.func34 rfl (Nat.le_of_ble_eq_true rfl) (XT.of tabX_ok ?_)
                    conv => whnf
                    refine XT.nilr 9 65 4 rfl rfl ?_
                    conv => whnf
                    refine XT.tidy ?_
                    conv => whnf
                    refine XT.loop tabX_ok (Y := Nat) [9, 10, 11, 12, 13, 14, 15, 16, 17, 18, 19, 20, 21, 22, 23, 24, 25, 26, 27, 28, 29, 30, 31, 32, 33, 34] (fun a => [(13, .p (.v (.int .i64 ((a : Int)))) (nlv _)), (9, .row 19)]) (fun a => [(19, .row 65 4 ((withR n.s (x.a) sl0 false a).map (slC false)) (nl_sl _ _))]) (fun a => a ≤ 80) (fun a => 80 - a) 0 (Nat.zero_le _) ?_ ?_
                    · skip
                      refine ⟨?_, ?_, ?_⟩
                      · skip
                        refine leEnv_app (by kernel_rfl) (by kernel_rfl) ?_
                        repeat ((conv => whnf); first | exact True.intro | refine ⟨.rfl, ?_⟩ | refine ⟨.any, ?_⟩ | refine ⟨.nil, ?_⟩ | refine ⟨.int (by first | rfl | omega | (simp only [wrs]; omega)), ?_⟩)
                      · skip
                        repeat (first | exact LeVs.nil | ((conv => whnf); first | exact True.intro | exact .none | exact .row rfl | refine .cells ?_ | refine ⟨_, _, rfl, .rfl, ?_⟩ | refine ⟨_, _, rfl, .any, ?_⟩ | refine ⟨_, _, rfl, .nil, ?_⟩ | refine ⟨_, _, rfl, .int (by first | rfl | omega | (simp only [wrs]; omega)), ?_⟩ | refine ⟨?_, ?_⟩))
                        done
                      · skip
                        exact LeFr.same (by kernel_rfl)
                    · skip
                      rintro a ha
                      rcases Nat.lt_or_ge a 80 with ha8 | ha8
                      · skip
                        conv => whnf
                        refine bT (decide_eq_true (by omega)) ?_
                        conv => whnf
                        refine .inl ?_
                        conv => whnf
                        refine InlG.mk (by kernel_rfl) Try.func60 rfl (Nat.le_of_ble_eq_true rfl) (XT.of tabX_ok ?_)
                        conv => whnf
                        refine XT.tidy ?_
                        conv => whnf
                        refine XT.loop tabX_ok (Y := Nat) [5, 7, 11, 12, 13, 14, 15, 16, 17, 18, 19, 20, 21] (fun qc10 => [(11, .p (.v (.int .i64 ((qc10 : Int)))) (nlv _))]) (fun qc10 => []) (fun qc10 => qc10 ≤ n.s.length ∧ noCar n.s ((↑a : Int)) qc10) (fun qc10 => n.s.length - qc10) 0 ⟨Nat.zero_le _, noCar_0 _ _⟩ ?_ ?_
                        · skip
                          refine ⟨?_, ?_, ?_⟩
                          · skip
                            refine leEnv_app (by kernel_rfl) (by kernel_rfl) ?_
                            repeat ((conv => whnf); first | exact True.intro | refine ⟨.rfl, ?_⟩ | refine ⟨.any, ?_⟩ | refine ⟨.nil, ?_⟩ | refine ⟨.int (by first | rfl | omega | (simp only [wrs]; omega)), ?_⟩)
                          · skip
                            repeat (first | exact LeVs.nil | ((conv => whnf); first | exact True.intro | exact .none | exact .row rfl | refine .cells ?_ | refine ⟨_, _, rfl, .rfl, ?_⟩ | refine ⟨_, _, rfl, .any, ?_⟩ | refine ⟨_, _, rfl, .nil, ?_⟩ | refine ⟨_, _, rfl, .int (by first | rfl | omega | (simp only [wrs]; omega)), ?_⟩ | refine ⟨?_, ?_⟩))
                            done
                          · skip
                            exact LeFr.same (by kernel_rfl)
                        · skip
                          rintro qc10 ⟨hqc10, hnc⟩
                          conv => whnf
                          refine bS (fun hc27 => ?_) (fun hc27 => ?_)
                          · skip
                            try simp only [bls] at hc27
                            conv => whnf
                            refine IdxG.map (l := n.s) _ rfl (by first | omega | (simp only [List.length_map] at *; omega)) ?_; intro y hy hny
                            conv => whnf
                            refine ⟨rfl, ?_⟩
                            conv => whnf
                            refine bS (fun hc28 => ?_) (fun hc28 => ?_)
                            · skip
                              try simp only [bls] at hc28
                              conv => whnf
                              refine ⟨.inr rfl, ?_⟩
                              conv => whnf
                              refine bS (fun hc29 => ?_) (fun hc29 => ?_)
                              · skip
                                try simp only [bls] at hc29
                                conv => whnf
                                refine ⟨(a + 1), (by omega), (by omega), ?_⟩
                                refine ⟨?_, ?_, ?_⟩
                                · skip
                                  refine leEnv_app (by kernel_rfl) (by kernel_rfl) ?_
                                  repeat ((conv => whnf); first | exact True.intro | refine ⟨.rfl, ?_⟩ | refine ⟨.any, ?_⟩ | refine ⟨.nil, ?_⟩ | refine ⟨.int (by first | rfl | omega | (simp only [wrs]; omega)), ?_⟩)
                                · skip
                                  repeat (first | exact LeVs.nil | ((conv => whnf); first | exact True.intro | exact .none | exact .row rfl | exact .row ((by rw [withR_n (by omega) rfl] : _ = _)) | refine .cells ?_ | refine ⟨_, _, rfl, .rfl, ?_⟩ | refine ⟨_, _, rfl, .any, ?_⟩ | refine ⟨_, _, rfl, .nil, ?_⟩ | refine ⟨_, _, rfl, .int (by first | rfl | omega | (simp only [wrs]; omega)), ?_⟩ | refine ⟨?_, ?_⟩))
                                  done
                                · skip
                                  exact LeFr.same (by kernel_rfl)
                              · skip
                                try simp only [bls] at hc29
                                conv => whnf
                                refine ⟨ApOk.lit rfl, ?_⟩
                                conv => whnf
                                refine ⟨by have h8 := withR_len n.s x.a sl0 false a; simp only [List.length_map, List.length_cons, List.length_nil]; omega, ?_⟩
                                conv => whnf
                                refine ⟨(a + 1), (by omega), (by omega), ?_⟩
                                refine ⟨?_, ?_, ?_⟩
                                · skip
                                  refine leEnv_app (by kernel_rfl) (by kernel_rfl) ?_
                                  repeat ((conv => whnf); first | exact True.intro | refine ⟨.rfl, ?_⟩ | refine ⟨.any, ?_⟩ | refine ⟨.nil, ?_⟩ | refine ⟨.int (by first | rfl | omega | (simp only [wrs]; omega)), ?_⟩)
                                · skip
                                  repeat (first | exact LeVs.nil | ((conv => whnf); first | exact True.intro | exact .none | exact .row rfl | exact .row ((by rw [withR_c (by omega) hnc hy (by omega), List.map_append]; rfl : _ = _)) | refine .cells ?_ | refine ⟨_, _, rfl, .rfl, ?_⟩ | refine ⟨_, _, rfl, .any, ?_⟩ | refine ⟨_, _, rfl, .nil, ?_⟩ | refine ⟨_, _, rfl, .int (by first | rfl | omega | (simp only [wrs]; omega)), ?_⟩ | refine ⟨?_, ?_⟩))
                                  done
                                · skip
                                  exact LeFr.same (by kernel_rfl)
                            · skip
                              try simp only [bls] at hc28
                              conv => whnf
                              refine ⟨(qc10 + 1), ⟨by omega, noCar_s hnc hy (by assumption)⟩, (by omega), ?_⟩
                              refine ⟨?_, ?_, ?_⟩
                              · skip
                                refine leEnv_app (by kernel_rfl) (by kernel_rfl) ?_
                                repeat ((conv => whnf); first | exact True.intro | refine ⟨.rfl, ?_⟩ | refine ⟨.any, ?_⟩ | refine ⟨.nil, ?_⟩ | refine ⟨.int (by first | rfl | omega | (simp only [wrs]; omega)), ?_⟩)
                              · skip
                                repeat (first | exact LeVs.nil | ((conv => whnf); first | exact True.intro | exact .none | exact .row rfl | refine .cells ?_ | refine ⟨_, _, rfl, .rfl, ?_⟩ | refine ⟨_, _, rfl, .any, ?_⟩ | refine ⟨_, _, rfl, .nil, ?_⟩ | refine ⟨_, _, rfl, .int (by first | rfl | omega | (simp only [wrs]; omega)), ?_⟩ | refine ⟨?_, ?_⟩))
                                done
                              · skip
                                exact LeFr.same (by kernel_rfl)
                          · skip
                            try simp only [bls] at hc27
                            conv => whnf
                            refine ⟨.inr rfl, ?_⟩
                            conv => whnf
                            refine bS (fun hc30 => ?_) (fun hc30 => ?_)
                            · skip
                              try simp only [bls] at hc30
                              conv => whnf
                              refine ⟨(a + 1), (by omega), (by omega), ?_⟩
                              refine ⟨?_, ?_, ?_⟩
                              · skip
                                refine leEnv_app (by kernel_rfl) (by kernel_rfl) ?_
                                repeat ((conv => whnf); first | exact True.intro | refine ⟨.rfl, ?_⟩ | refine ⟨.any, ?_⟩ | refine ⟨.nil, ?_⟩ | refine ⟨.int (by first | rfl | omega | (simp only [wrs]; omega)), ?_⟩)
                              · skip
                                repeat (first | exact LeVs.nil | ((conv => whnf); first | exact True.intro | exact .none | exact .row rfl | exact .row ((by rw [withR_n (by omega) rfl] : _ = _)) | refine .cells ?_ | refine ⟨_, _, rfl, .rfl, ?_⟩ | refine ⟨_, _, rfl, .any, ?_⟩ | refine ⟨_, _, rfl, .nil, ?_⟩ | refine ⟨_, _, rfl, .int (by first | rfl | omega | (simp only [wrs]; omega)), ?_⟩ | refine ⟨?_, ?_⟩))
                                done
                              · skip
                                exact LeFr.same (by kernel_rfl)
                            · skip
                              try simp only [bls] at hc30
                              conv => whnf
                              refine ⟨(a + 1), (by omega), (by omega), ?_⟩
                              refine ⟨?_, ?_, ?_⟩
                              · skip
                                refine leEnv_app (by kernel_rfl) (by kernel_rfl) ?_
                                repeat ((conv => whnf); first | exact True.intro | refine ⟨.rfl, ?_⟩ | refine ⟨.any, ?_⟩ | refine ⟨.nil, ?_⟩ | refine ⟨.int (by first | rfl | omega | (simp only [wrs]; omega)), ?_⟩)
                              · skip
                                repeat (first | exact LeVs.nil | ((conv => whnf); first | exact True.intro | exact .none | exact .row rfl | exact .row ((by rw [withR_f (by omega) hnc (by omega)] : _ = _)) | refine .cells ?_ | refine ⟨_, _, rfl, .rfl, ?_⟩ | refine ⟨_, _, rfl, .any, ?_⟩ | refine ⟨_, _, rfl, .nil, ?_⟩ | refine ⟨_, _, rfl, .int (by first | rfl | omega | (simp only [wrs]; omega)), ?_⟩ | refine ⟨?_, ?_⟩))
                                done
                              · skip
                                exact LeFr.same (by kernel_rfl)
                      · skip
                        obtain rfl : a = 80 := by omega
                        conv => whnf
                        refine ⟨.inr rfl, ?_⟩
                        conv => whnf
                        refine RegG.late 6 [(6, 0, 4), (7, 0, 3)] (by kernel_rfl) ?_
                        conv => whnf
                        refine ⟨rfl, ?_⟩
                        conv => whnf
                        refine ⟨rfl, ?_⟩
                        conv => whnf
                        refine ⟨by assumption, ?_⟩
                        conv => whnf
                        refine .ct ?_
                        conv => whnf
                        refine CallG.mk (deaf_X _ _ _ n x.f x.t (by omega)) rfl ?_
                        conv => whnf
                        refine bF (decide_eq_false hm) ?_
                        conv => whnf
                        refine ⟨by assumption, ?_⟩
                        conv => whnf
                        refine .ct ?_
                        conv => whnf
                        refine CallG.mk (full_X _ _ _ n) rfl ?_
                        conv => whnf
                        refine bT (by simp [hf]; done) ?_
                        conv => whnf
                        refine ⟨by assumption, ?_⟩
                        conv => whnf
                        refine .inl ?_
                        conv => whnf
                        refine InlG.mk (by kernel_rfl) Try.func36 rfl (Nat.le_of_ble_eq_true rfl) (XT.of tabX_ok ?_)
                        conv => whnf
                        refine XT.tidy ?_
                        conv => whnf
                        refine XT.loop tabX_ok (Y := Nat) [5, 6, 7, 8, 9, 10, 11, 12, 13, 14, 15, 16, 17, 18, 19, 20, 21, 22, 23] (fun i => [(7, .p (.v (.int .i64 ((i : Int)))) (nlv _))]) (fun i => [(20, .cells 25 [.p (.sl false (n.s.map (slC false))) (nl_sl _ _).sl, .p (.v (.int .i64 (lastI n.l i))) (nlv _), .p (.sl false (n.d.map dfC)) (nl_df _).sl])]) (fun i => i ≤ 80 ∧ ∀ j, j < i → hasS n.s (slotN n.l j) = true) (fun i => 80 - i) 0 ⟨by omega, fun j hj => by omega⟩ ?_ ?_
                        · skip
                          refine ⟨?_, ?_, ?_⟩
                          · skip
                            refine leEnv_app (by kernel_rfl) (by kernel_rfl) ?_
                            repeat ((conv => whnf); first | exact True.intro | refine ⟨.rfl, ?_⟩ | refine ⟨.any, ?_⟩ | refine ⟨.nil, ?_⟩ | refine ⟨.int (by first | rfl | omega | (simp only [wrs]; omega)), ?_⟩ | refine ⟨.int (lastI_s hrl (by omega)), ?_⟩ | refine ⟨.int (lastI_s hrl (by omega)).symm, ?_⟩)
                          · skip
                            repeat (first | exact LeVs.nil | ((conv => whnf); first | exact True.intro | exact .none | exact .row rfl | refine .cells ?_ | refine ⟨_, _, rfl, .rfl, ?_⟩ | refine ⟨_, _, rfl, .any, ?_⟩ | refine ⟨_, _, rfl, .nil, ?_⟩ | refine ⟨_, _, rfl, .int (by first | rfl | omega | (simp only [wrs]; omega)), ?_⟩ | refine ⟨_, _, rfl, .int (lastI_s hrl (by omega)), ?_⟩ | refine ⟨_, _, rfl, .int (lastI_s hrl (by omega)).symm, ?_⟩ | refine ⟨?_, ?_⟩))
                            done
                          · skip
                            exact LeFr.same (by kernel_rfl)
                        · skip
                          rintro i ⟨hi, h2⟩
                          rcases Nat.lt_or_ge i 80 with hi8 | hi8
                          · skip
                            conv => whnf
                            refine bT (decide_eq_true (by omega)) ?_
                            conv => whnf
                            refine .inl ?_
                            conv => whnf
                            refine InlG.mk (by kernel_rfl) Try.func60 rfl (Nat.le_of_ble_eq_true rfl) (XT.of tabX_ok ?_)
                            conv => whnf
                            refine XT.tidy ?_
                            conv => whnf
                            refine XT.loop tabX_ok (Y := Nat) [5, 7, 11, 12, 13, 14, 15, 16, 17, 18, 19, 20, 21] (fun qc11 => [(11, .p (.v (.int .i64 ((qc11 : Int)))) (nlv _))]) (fun qc11 => []) (fun qc11 => qc11 ≤ n.s.length ∧ noCar n.s ((IntKind.i64.wrap (lastI n.l i + 1)).tmod 80) qc11) (fun qc11 => n.s.length - qc11) 0 ⟨Nat.zero_le _, noCar_0 _ _⟩ ?_ ?_
                            · skip
                              refine ⟨?_, ?_, ?_⟩
                              · skip
                                refine leEnv_app (by kernel_rfl) (by kernel_rfl) ?_
                                repeat ((conv => whnf); first | exact True.intro | refine ⟨.rfl, ?_⟩ | refine ⟨.any, ?_⟩ | refine ⟨.nil, ?_⟩ | refine ⟨.int (by first | rfl | omega | (simp only [wrs]; omega)), ?_⟩)
                              · skip
                                repeat (first | exact LeVs.nil | ((conv => whnf); first | exact True.intro | exact .none | exact .row rfl | refine .cells ?_ | refine ⟨_, _, rfl, .rfl, ?_⟩ | refine ⟨_, _, rfl, .any, ?_⟩ | refine ⟨_, _, rfl, .nil, ?_⟩ | refine ⟨_, _, rfl, .int (by first | rfl | omega | (simp only [wrs]; omega)), ?_⟩ | refine ⟨?_, ?_⟩))
                                done
                              · skip
                                exact LeFr.same (by kernel_rfl)
                            · skip
                              rintro qc11 ⟨hqc11, hnc⟩
                              conv => whnf
                              refine bS (fun hc31 => ?_) (fun hc31 => ?_)
                              · skip
                                try simp only [bls] at hc31
                                conv => whnf
                                refine IdxG.map (l := n.s) _ rfl (by first | omega | (simp only [List.length_map] at *; omega)) ?_; intro y hy hny
                                conv => whnf
                                refine ⟨rfl, ?_⟩
                                conv => whnf
                                refine bS (fun hc32 => ?_) (fun hc32 => ?_)
                                · skip
                                  try simp only [bls] at hc32
                                  try simp (disch := omega) only [wz, Int.reduceAdd, Int.reduceSub, Int.reduceMul, Int.reduceNeg, Int.zero_add, Int.add_zero, Int.sub_zero, Int.sub_self] at hc32
                                  conv => whnf
                                  refine ⟨.inr rfl, ?_⟩
                                  conv => whnf
                                  refine ⟨(i + 1), ⟨by omega, fun j hj => by rcases Nat.lt_or_ge j i with h8 | h8; exact h2 j h8; obtain rfl : j = i := (by omega); rw [← lastI_s hrl (by omega)]; exact (car_t hnc hy (by assumption)).1⟩, (by omega), ?_⟩
                                  refine ⟨?_, ?_, ?_⟩
                                  · skip
                                    refine leEnv_app (by kernel_rfl) (by kernel_rfl) ?_
                                    repeat ((conv => whnf); first | exact True.intro | refine ⟨.rfl, ?_⟩ | refine ⟨.any, ?_⟩ | refine ⟨.nil, ?_⟩ | refine ⟨.int (by first | rfl | omega | (simp only [wrs]; omega)), ?_⟩ | refine ⟨.int (lastI_s hrl (by omega)), ?_⟩ | refine ⟨.int (lastI_s hrl (by omega)).symm, ?_⟩)
                                  · skip
                                    repeat (first | exact LeVs.nil | ((conv => whnf); first | exact True.intro | exact .none | exact .row rfl | refine .cells ?_ | refine ⟨_, _, rfl, .rfl, ?_⟩ | refine ⟨_, _, rfl, .any, ?_⟩ | refine ⟨_, _, rfl, .nil, ?_⟩ | refine ⟨_, _, rfl, .int (by first | rfl | omega | (simp only [wrs]; omega)), ?_⟩ | refine ⟨_, _, rfl, .int (lastI_s hrl (by omega)), ?_⟩ | refine ⟨_, _, rfl, .int (lastI_s hrl (by omega)).symm, ?_⟩ | refine ⟨?_, ?_⟩))
                                    done
                                  · skip
                                    exact LeFr.same (by kernel_rfl)
                                · skip
                                  try simp only [bls] at hc32
                                  try simp (disch := omega) only [wz, Int.reduceAdd, Int.reduceSub, Int.reduceMul, Int.reduceNeg, Int.zero_add, Int.add_zero, Int.sub_zero, Int.sub_self] at hc32
                                  conv => whnf
                                  refine ⟨(qc11 + 1), ⟨by omega, noCar_s hnc hy (by assumption)⟩, (by omega), ?_⟩
                                  refine ⟨?_, ?_, ?_⟩
                                  · skip
                                    refine leEnv_app (by kernel_rfl) (by kernel_rfl) ?_
                                    repeat ((conv => whnf); first | exact True.intro | refine ⟨.rfl, ?_⟩ | refine ⟨.any, ?_⟩ | refine ⟨.nil, ?_⟩ | refine ⟨.int (by first | rfl | omega | (simp only [wrs]; omega)), ?_⟩)
                                  · skip
                                    repeat (first | exact LeVs.nil | ((conv => whnf); first | exact True.intro | exact .none | exact .row rfl | refine .cells ?_ | refine ⟨_, _, rfl, .rfl, ?_⟩ | refine ⟨_, _, rfl, .any, ?_⟩ | refine ⟨_, _, rfl, .nil, ?_⟩ | refine ⟨_, _, rfl, .int (by first | rfl | omega | (simp only [wrs]; omega)), ?_⟩ | refine ⟨?_, ?_⟩))
                                    done
                                  · skip
                                    exact LeFr.same (by kernel_rfl)
                              · skip
                                try simp only [bls] at hc31
                                conv => whnf
                                obtain rfl : i0 = i := first_eq (s := n.s) (l := n.l) hi1 hi2 (by rw [← lastI_s hrl (by omega)]; exact car_f hnc (by omega)) h2
                                conv => whnf
                                refine ⟨.inr rfl, ?_⟩
                                conv => whnf
                                refine .inl ?_
                                conv => whnf
                                refine InlG.mk (by kernel_rfl) Try.func34 rfl (Nat.le_of_ble_eq_true rfl) (XT.of tabX_ok ?_)
                                conv => whnf
                                refine XT.nilr 9 65 4 rfl rfl ?_
                                conv => whnf
                                refine XT.tidy ?_
                                conv => whnf
                                refine XT.loop tabX_ok (Y := Nat) [9, 10, 11, 12, 13, 14, 15, 16, 17, 18, 19, 20, 21, 22, 23, 24, 25, 26, 27, 28, 29, 30, 31, 32, 33, 34] (fun a => [(13, .p (.v (.int .i64 ((a : Int)))) (nlv _)), (9, .row 29)]) (fun a => [(29, .row 65 4 ((withR n.s ((IntKind.i64.wrap (lastI n.l i0 + 1)).tmod 80) x true a).map (slC false)) (nl_sl _ _))]) (fun a => a ≤ 80) (fun a => 80 - a) 0 (Nat.zero_le _) ?_ ?_
                                · skip
                                  refine ⟨?_, ?_, ?_⟩
                                  · skip
                                    refine leEnv_app (by kernel_rfl) (by kernel_rfl) ?_
                                    repeat ((conv => whnf); first | exact True.intro | refine ⟨.rfl, ?_⟩ | refine ⟨.any, ?_⟩ | refine ⟨.nil, ?_⟩ | refine ⟨.int (by first | rfl | omega | (simp only [wrs]; omega)), ?_⟩)
                                  · skip
                                    repeat (first | exact LeVs.nil | ((conv => whnf); first | exact True.intro | exact .none | exact .row rfl | refine .cells ?_ | refine ⟨_, _, rfl, .rfl, ?_⟩ | refine ⟨_, _, rfl, .any, ?_⟩ | refine ⟨_, _, rfl, .nil, ?_⟩ | refine ⟨_, _, rfl, .int (by first | rfl | omega | (simp only [wrs]; omega)), ?_⟩ | refine ⟨?_, ?_⟩))
                                    done
                                  · skip
                                    exact LeFr.same (by kernel_rfl)
                                · skip
                                  rintro a ha
                                  rcases Nat.lt_or_ge a 80 with ha8 | ha8
                                  · skip
                                    conv => whnf
                                    refine bT (decide_eq_true (by omega)) ?_
                                    conv => whnf
                                    refine .inl ?_
                                    conv => whnf
                                    refine InlG.mk (by kernel_rfl) Try.func60 rfl (Nat.le_of_ble_eq_true rfl) (XT.of tabX_ok ?_)
                                    conv => whnf
                                    refine XT.tidy ?_
                                    conv => whnf
                                    refine XT.loop tabX_ok (Y := Nat) [5, 7, 11, 12, 13, 14, 15, 16, 17, 18, 19, 20, 21] (fun qc12 => [(11, .p (.v (.int .i64 ((qc12 : Int)))) (nlv _))]) (fun qc12 => []) (fun qc12 => qc12 ≤ n.s.length ∧ noCar n.s ((↑a : Int)) qc12) (fun qc12 => n.s.length - qc12) 0 ⟨Nat.zero_le _, noCar_0 _ _⟩ ?_ ?_
                                    · skip
                                      refine ⟨?_, ?_, ?_⟩
                                      · skip
                                        refine leEnv_app (by kernel_rfl) (by kernel_rfl) ?_
                                        repeat ((conv => whnf); first | exact True.intro | refine ⟨.rfl, ?_⟩ | refine ⟨.any, ?_⟩ | refine ⟨.nil, ?_⟩ | refine ⟨.int (by first | rfl | omega | (simp only [wrs]; omega)), ?_⟩)
                                      · skip
                                        repeat (first | exact LeVs.nil | ((conv => whnf); first | exact True.intro | exact .none | exact .row rfl | refine .cells ?_ | refine ⟨_, _, rfl, .rfl, ?_⟩ | refine ⟨_, _, rfl, .any, ?_⟩ | refine ⟨_, _, rfl, .nil, ?_⟩ | refine ⟨_, _, rfl, .int (by first | rfl | omega | (simp only [wrs]; omega)), ?_⟩ | refine ⟨?_, ?_⟩))
                                        done
                                      · skip
                                        exact LeFr.same (by kernel_rfl)
                                    · skip
                                      rintro qc12 ⟨hqc12, hnc⟩
                                      conv => whnf
                                      refine bS (fun hc33 => ?_) (fun hc33 => ?_)
                                      · skip
                                        try simp only [bls] at hc33
                                        conv => whnf
                                        refine IdxG.map (l := n.s) _ rfl (by first | omega | (simp only [List.length_map] at *; omega)) ?_; intro y hy hny
                                        conv => whnf
                                        refine ⟨rfl, ?_⟩
                                        conv => whnf
                                        refine bS (fun hc34 => ?_) (fun hc34 => ?_)
                                        · skip
                                          try simp only [bls] at hc34
                                          conv => whnf
                                          refine ⟨.inr rfl, ?_⟩
                                          conv => whnf
                                          refine bS (fun hc35 => ?_) (fun hc35 => ?_)
                                          · skip
                                            try simp only [bls] at hc35
                                            try simp (disch := omega) only [wz, Int.reduceAdd, Int.reduceSub, Int.reduceMul, Int.reduceNeg, Int.zero_add, Int.add_zero, Int.sub_zero, Int.sub_self] at hc35
                                            conv => whnf
                                            refine ⟨ApOk.lit rfl, ?_⟩
                                            conv => whnf
                                            simp (disch := omega) only [wz, Int.reduceAdd, Int.reduceSub, Int.reduceMul, Int.reduceNeg, Int.zero_add, Int.add_zero, Int.sub_zero, Int.sub_self]
                                            conv => whnf
                                            refine ⟨by have h8 := withR_len n.s ((IntKind.i64.wrap (lastI n.l i0 + 1)).tmod 80) x true a; simp only [List.length_map, List.length_cons, List.length_nil]; omega, ?_⟩
                                            conv => whnf
                                            refine ⟨(a + 1), (by omega), (by omega), ?_⟩
                                            refine ⟨?_, ?_, ?_⟩
                                            · skip
                                              refine leEnv_app (by kernel_rfl) (by kernel_rfl) ?_
                                              repeat ((conv => whnf); first | exact True.intro | refine ⟨.rfl, ?_⟩ | refine ⟨.any, ?_⟩ | refine ⟨.nil, ?_⟩ | refine ⟨.int (by first | rfl | omega | (simp only [wrs]; omega)), ?_⟩)
                                            · skip
                                              repeat (first | exact LeVs.nil | ((conv => whnf); first | exact True.intro | exact .none | exact .row rfl | exact .row ((by rw [withR_t (by omega) rfl, List.map_append]; rfl : _ = _)) | refine .cells ?_ | refine ⟨_, _, rfl, .rfl, ?_⟩ | refine ⟨_, _, rfl, .any, ?_⟩ | refine ⟨_, _, rfl, .nil, ?_⟩ | refine ⟨_, _, rfl, .int (by first | rfl | omega | (simp only [wrs]; omega)), ?_⟩ | refine ⟨?_, ?_⟩))
                                              done
                                            · skip
                                              exact LeFr.same (by kernel_rfl)
                                          · skip
                                            try simp only [bls] at hc35
                                            try simp (disch := omega) only [wz, Int.reduceAdd, Int.reduceSub, Int.reduceMul, Int.reduceNeg, Int.zero_add, Int.add_zero, Int.sub_zero, Int.sub_self] at hc35
                                            conv => whnf
                                            refine ⟨ApOk.lit rfl, ?_⟩
                                            conv => whnf
                                            simp (disch := omega) only [wz, Int.reduceAdd, Int.reduceSub, Int.reduceMul, Int.reduceNeg, Int.zero_add, Int.add_zero, Int.sub_zero, Int.sub_self]
                                            conv => whnf
                                            refine ⟨by have h8 := withR_len n.s ((IntKind.i64.wrap (lastI n.l i0 + 1)).tmod 80) x true a; simp only [List.length_map, List.length_cons, List.length_nil]; omega, ?_⟩
                                            conv => whnf
                                            refine ⟨(a + 1), (by omega), (by omega), ?_⟩
                                            refine ⟨?_, ?_, ?_⟩
                                            · skip
                                              refine leEnv_app (by kernel_rfl) (by kernel_rfl) ?_
                                              repeat ((conv => whnf); first | exact True.intro | refine ⟨.rfl, ?_⟩ | refine ⟨.any, ?_⟩ | refine ⟨.nil, ?_⟩ | refine ⟨.int (by first | rfl | omega | (simp only [wrs]; omega)), ?_⟩)
                                            · skip
                                              repeat (first | exact LeVs.nil | ((conv => whnf); first | exact True.intro | exact .none | exact .row rfl | exact .row ((by rw [withR_c (by omega) hnc hy (by omega), List.map_append]; rfl : _ = _)) | refine .cells ?_ | refine ⟨_, _, rfl, .rfl, ?_⟩ | refine ⟨_, _, rfl, .any, ?_⟩ | refine ⟨_, _, rfl, .nil, ?_⟩ | refine ⟨_, _, rfl, .int (by first | rfl | omega | (simp only [wrs]; omega)), ?_⟩ | refine ⟨?_, ?_⟩))
                                              done
                                            · skip
                                              exact LeFr.same (by kernel_rfl)
                                        · skip
                                          try simp only [bls] at hc34
                                          conv => whnf
                                          refine ⟨(qc12 + 1), ⟨by omega, noCar_s hnc hy (by assumption)⟩, (by omega), ?_⟩
                                          refine ⟨?_, ?_, ?_⟩
                                          · skip
                                            refine leEnv_app (by kernel_rfl) (by kernel_rfl) ?_
                                            repeat ((conv => whnf); first | exact True.intro | refine ⟨.rfl, ?_⟩ | refine ⟨.any, ?_⟩ | refine ⟨.nil, ?_⟩ | refine ⟨.int (by first | rfl | omega | (simp only [wrs]; omega)), ?_⟩)
                                          · skip
                                            repeat (first | exact LeVs.nil | ((conv => whnf); first | exact True.intro | exact .none | exact .row rfl | refine .cells ?_ | refine ⟨_, _, rfl, .rfl, ?_⟩ | refine ⟨_, _, rfl, .any, ?_⟩ | refine ⟨_, _, rfl, .nil, ?_⟩ | refine ⟨_, _, rfl, .int (by first | rfl | omega | (simp only [wrs]; omega)), ?_⟩ | refine ⟨?_, ?_⟩))
                                            done
                                          · skip
                                            exact LeFr.same (by kernel_rfl)
                                      · skip
                                        try simp only [bls] at hc33
                                        conv => whnf
                                        refine ⟨.inr rfl, ?_⟩
                                        conv => whnf
                                        refine bS (fun hc36 => ?_) (fun hc36 => ?_)
                                        · skip
                                          try simp only [bls] at hc36
                                          try simp (disch := omega) only [wz, Int.reduceAdd, Int.reduceSub, Int.reduceMul, Int.reduceNeg, Int.zero_add, Int.add_zero, Int.sub_zero, Int.sub_self] at hc36
                                          conv => whnf
                                          refine ⟨ApOk.lit rfl, ?_⟩
                                          conv => whnf
                                          simp (disch := omega) only [wz, Int.reduceAdd, Int.reduceSub, Int.reduceMul, Int.reduceNeg, Int.zero_add, Int.add_zero, Int.sub_zero, Int.sub_self]
                                          conv => whnf
                                          refine ⟨by have h8 := withR_len n.s ((IntKind.i64.wrap (lastI n.l i0 + 1)).tmod 80) x true a; simp only [List.length_map, List.length_cons, List.length_nil]; omega, ?_⟩
                                          conv => whnf
                                          refine ⟨(a + 1), (by omega), (by omega), ?_⟩
                                          refine ⟨?_, ?_, ?_⟩
                                          · skip
                                            refine leEnv_app (by kernel_rfl) (by kernel_rfl) ?_
                                            repeat ((conv => whnf); first | exact True.intro | refine ⟨.rfl, ?_⟩ | refine ⟨.any, ?_⟩ | refine ⟨.nil, ?_⟩ | refine ⟨.int (by first | rfl | omega | (simp only [wrs]; omega)), ?_⟩)
                                          · skip
                                            repeat (first | exact LeVs.nil | ((conv => whnf); first | exact True.intro | exact .none | exact .row rfl | exact .row ((by rw [withR_t (by omega) rfl, List.map_append]; rfl : _ = _)) | refine .cells ?_ | refine ⟨_, _, rfl, .rfl, ?_⟩ | refine ⟨_, _, rfl, .any, ?_⟩ | refine ⟨_, _, rfl, .nil, ?_⟩ | refine ⟨_, _, rfl, .int (by first | rfl | omega | (simp only [wrs]; omega)), ?_⟩ | refine ⟨?_, ?_⟩))
                                            done
                                          · skip
                                            exact LeFr.same (by kernel_rfl)
                                        · skip
                                          try simp only [bls] at hc36
                                          try simp (disch := omega) only [wz, Int.reduceAdd, Int.reduceSub, Int.reduceMul, Int.reduceNeg, Int.zero_add, Int.add_zero, Int.sub_zero, Int.sub_self] at hc36
                                          conv => whnf
                                          refine ⟨(a + 1), (by omega), (by omega), ?_⟩
                                          refine ⟨?_, ?_, ?_⟩
                                          · skip
                                            refine leEnv_app (by kernel_rfl) (by kernel_rfl) ?_
                                            repeat ((conv => whnf); first | exact True.intro | refine ⟨.rfl, ?_⟩ | refine ⟨.any, ?_⟩ | refine ⟨.nil, ?_⟩ | refine ⟨.int (by first | rfl | omega | (simp only [wrs]; omega)), ?_⟩)
                                          · skip
                                            repeat (first | exact LeVs.nil | ((conv => whnf); first | exact True.intro | exact .none | exact .row rfl | exact .row ((by rw [withR_f (by omega) hnc (by omega)] : _ = _)) | refine .cells ?_ | refine ⟨_, _, rfl, .rfl, ?_⟩ | refine ⟨_, _, rfl, .any, ?_⟩ | refine ⟨_, _, rfl, .nil, ?_⟩ | refine ⟨_, _, rfl, .int (by first | rfl | omega | (simp only [wrs]; omega)), ?_⟩ | refine ⟨?_, ?_⟩))
                                            done
                                          · skip
                                            exact LeFr.same (by kernel_rfl)
                                  · skip
                                    obtain rfl : a = 80 := by omega
                                    conv => whnf
                                    refine ⟨.inr rfl, ?_⟩
                                    conv => whnf
                                    refine ⟨.inr rfl, ?_⟩
                                    conv => whnf
                                    refine ⟨(false, false, (true, false, false), (true, false, false), (true, false, false)), trivial, [19, 29], ?_⟩
                                    conv => whnf
                                    conv => whnf
                                    show LeX _ _ _ _ _ _
                                    refine ⟨?_, ?_, ?_⟩
                                    · skip
                                      refine leEnv_app (by kernel_rfl) (by kernel_rfl) ?_
                                      repeat ((conv => whnf); first | exact True.intro | refine ⟨.rfl, ?_⟩ | refine ⟨.any, ?_⟩ | refine ⟨.nil, ?_⟩ | refine ⟨.int (by first | rfl | omega | (simp only [wrs]; omega)), ?_⟩ | refine ⟨.int (by rfl), ?_⟩ | refine ⟨.tv (by rw [with_del hsl hx]), ?_⟩ | refine ⟨.tv (by rw [lastI_s hrl (by omega), with_ins hsl (slotN_way _ _) hi1]), ?_⟩ | refine ⟨.int (lastI_s hrl (by omega)), ?_⟩)
                                    · skip
                                      repeat (first | exact LeVs.nil | ((conv => whnf); first | exact True.intro | exact .none | exact .row rfl | refine .cells ?_ | refine ⟨_, _, rfl, .rfl, ?_⟩ | refine ⟨_, _, rfl, .any, ?_⟩ | refine ⟨_, _, rfl, .nil, ?_⟩ | refine ⟨_, _, rfl, .int (by first | rfl | omega | (simp only [wrs]; omega)), ?_⟩ | refine ⟨_, _, rfl, .int (by rfl), ?_⟩ | refine ⟨_, _, rfl, .tv (by rw [with_del hsl hx]), ?_⟩ | refine ⟨_, _, rfl, .tv (by rw [lastI_s hrl (by omega), with_ins hsl (slotN_way _ _) hi1]), ?_⟩ | refine ⟨_, _, rfl, .int (lastI_s hrl (by omega)), ?_⟩ | refine ⟨?_, ?_⟩))
                                      done
                                    · skip
                                      exact LeFr.same (by kernel_rfl)
                          · skip
                            exact absurd (all_full hsl fun j hj => h2 j (by omega)) hf
                  · skip
                    try simp only [bls] at hc26
                    conv => whnf
                    refine ⟨(qc9 + 1), ⟨by omega, noCar_s hnc hy (by assumption)⟩, (by omega), ?_⟩
                    refine ⟨?_, ?_, ?_⟩
                    · skip
                      refine leEnv_app (by kernel_rfl) (by kernel_rfl) ?_
                      repeat ((conv => whnf); first | exact True.intro | refine ⟨.rfl, ?_⟩ | refine ⟨.any, ?_⟩ | refine ⟨.nil, ?_⟩ | refine ⟨.int (by first | rfl | omega | (simp only [wrs]; omega)), ?_⟩)
                    · skip
                      repeat (first | exact LeVs.nil | ((conv => whnf); first | exact True.intro | exact .none | exact .row rfl | refine .cells ?_ | refine ⟨_, _, rfl, .rfl, ?_⟩ | refine ⟨_, _, rfl, .any, ?_⟩ | refine ⟨_, _, rfl, .nil, ?_⟩ | refine ⟨_, _, rfl, .int (by first | rfl | omega | (simp only [wrs]; omega)), ?_⟩ | refine ⟨?_, ?_⟩))
                      done
                    · skip
                      exact LeFr.same (by kernel_rfl)
                · skip
                  try simp only [bls] at hc25
                  conv => whnf
                  refine ⟨.inr rfl, ?_⟩
                  conv => whnf
                  refine ⟨(i + 1), ⟨by omega, fun j hj => by rcases Nat.lt_or_ge j i with h8 | h8; exact h2 j h8; obtain rfl : j = i := (by omega); exact car_f hnc (by omega)⟩, (by omega), ?_⟩
                  refine ⟨?_, ?_, ?_⟩
                  · skip
                    refine leEnv_app (by kernel_rfl) (by kernel_rfl) ?_
                    repeat ((conv => whnf); first | exact True.intro | refine ⟨.rfl, ?_⟩ | refine ⟨.any, ?_⟩ | refine ⟨.nil, ?_⟩ | refine ⟨.int (by first | rfl | omega | (simp only [wrs]; omega)), ?_⟩ | refine ⟨.int (meant_0 hp), ?_⟩ | refine ⟨.int (meant_0 hp).symm, ?_⟩ | refine ⟨.int meant_s, ?_⟩ | refine ⟨.int meant_s.symm, ?_⟩)
                  · skip
                    repeat (first | exact LeVs.nil | ((conv => whnf); first | exact True.intro | exact .none | exact .row rfl | refine .cells ?_ | refine ⟨_, _, rfl, .rfl, ?_⟩ | refine ⟨_, _, rfl, .any, ?_⟩ | refine ⟨_, _, rfl, .nil, ?_⟩ | refine ⟨_, _, rfl, .int (by first | rfl | omega | (simp only [wrs]; omega)), ?_⟩ | refine ⟨_, _, rfl, .int (meant_0 hp), ?_⟩ | refine ⟨_, _, rfl, .int (meant_0 hp).symm, ?_⟩ | refine ⟨_, _, rfl, .int meant_s, ?_⟩ | refine ⟨_, _, rfl, .int meant_s.symm, ?_⟩ | refine ⟨?_, ?_⟩))
                    done
                  · skip
                    exact LeFr.same (by kernel_rfl)
            · skip
              exact (meant_no hp hK fun q hq => h2 q (by omega)).elim
      · skip
        rintro y -
        conv => whnf
        refine bF (by simp [List.length_map, List.length_append, List.length_take, List.length_drop, List.length_cons, List.length_nil, slC, dfC, netX, net0, List.map_nil, mix_len, pkX, slX, sl0, delS]; done) ?_
        conv => whnf
        refine bF (by simp [List.length_map, List.length_append, List.length_take, List.length_drop, List.length_cons, List.length_nil, slC, dfC, netX, net0, List.map_nil, mix_len, pkX, slX, sl0, delS]; done) ?_
        conv => whnf
        refine bF (by simp [List.length_map, List.length_append, List.length_take, List.length_drop, List.length_cons, List.length_nil, slC, dfC, netX, net0, List.map_nil, mix_len, pkX, slX, sl0, delS]; done) ?_
        conv => whnf
        refine bF (by simp [List.length_map, List.length_append, List.length_take, List.length_drop, List.length_cons, List.length_nil, slC, dfC, netX, net0, List.map_nil, mix_len, pkX, slX, sl0, delS]; done) ?_
        conv => whnf
        refine bF (by simp [List.length_map, List.length_append, List.length_take, List.length_drop, List.length_cons, List.length_nil, slC, dfC, netX, net0, List.map_nil, mix_len, pkX, slX, sl0, delS]; done) ?_
        conv => whnf
        refine bF (by simp [List.length_map, List.length_append, List.length_take, List.length_drop, List.length_cons, List.length_nil, slC, dfC, netX, net0, List.map_nil, mix_len, pkX, slX, sl0, delS]; done) ?_
        conv => whnf
        refine bF (by simp [List.length_map, List.length_append, List.length_take, List.length_drop, List.length_cons, List.length_nil, slC, dfC, netX, net0, List.map_nil, mix_len, pkX, slX, sl0, delS]; done) ?_
        conv => whnf
        refine bF (by simp [List.length_map, List.length_append, List.length_take, List.length_drop, List.length_cons, List.length_nil, slC, dfC, netX, net0, List.map_nil, mix_len, pkX, slX, sl0, delS]; done) ?_
        conv => whnf
        refine bF (notF (decide_eq_true hLM)) ?_
        conv => whnf
        refine bF (notF (decide_eq_true hLM)) ?_
        conv => whnf
        refine bF (notF (decide_eq_true hLM)) ?_
        conv => whnf
        refine bF (notF (decide_eq_true hLM)) ?_
        conv => whnf
        refine bF (by simp [List.length_map, List.length_append, List.length_take, List.length_drop, List.length_cons, List.length_nil, slC, dfC, netX, net0, List.map_nil, mix_len, pkX, slX, sl0, delS]; done) ?_
        conv => whnf
        refine bF (by simp [List.length_map, List.length_append, List.length_take, List.length_drop, List.length_cons, List.length_nil, slC, dfC, netX, net0, List.map_nil, mix_len, pkX, slX, sl0, delS]; done) ?_
        conv => whnf
        refine bF (by simp [List.length_map, List.length_append, List.length_take, List.length_drop, List.length_cons, List.length_nil, slC, dfC, netX, net0, List.map_nil, mix_len, pkX, slX, sl0, delS]; done) ?_
        conv => whnf
        refine .ct ?_
        conv => whnf
        refine CallG.mk (sameSlot_X _ _ RM.1 RM.1 hzm hzm) rfl ?_
        conv => whnf
        refine bF (by simp [List.length_map, List.length_append, List.length_take, List.length_drop, List.length_cons, List.length_nil, slC, dfC, netX, net0, List.map_nil, mix_len, pkX, slX, sl0, delS]; done) ?_
        conv => whnf
        refine bF (by simp [List.length_map, List.length_append, List.length_take, List.length_drop, List.length_cons, List.length_nil, slC, dfC, netX, net0, List.map_nil, mix_len, pkX, slX, sl0, delS]; done) ?_
        conv => whnf
        refine bF (by simp [List.length_map, List.length_append, List.length_take, List.length_drop, List.length_cons, List.length_nil, slC, dfC, netX, net0, List.map_nil, mix_len, pkX, slX, sl0, delS]; done) ?_
        conv => whnf
        refine bF (by simp [List.length_map, List.length_append, List.length_take, List.length_drop, List.length_cons, List.length_nil, slC, dfC, netX, net0, List.map_nil, mix_len, pkX, slX, sl0, delS]; done) ?_
        conv => whnf
        refine bF (by simp [List.length_map, List.length_append, List.length_take, List.length_drop, List.length_cons, List.length_nil, slC, dfC, netX, net0, List.map_nil, mix_len, pkX, slX, sl0, delS]; done) ?_
        conv => whnf
        refine bF (by simp [List.length_map, List.length_append, List.length_take, List.length_drop, List.length_cons, List.length_nil, slC, dfC, netX, net0, List.map_nil, mix_len, pkX, slX, sl0, delS]; done) ?_
        conv => whnf
        refine .ct ?_
        conv => whnf
        refine CallG.mk (sameSlot_X _ _ ⟨0, RD.2.1.f, RD.2.1.t, RD.2.1.b⟩ ⟨0, RD.2.1.f, RD.2.1.t, RD.2.1.b⟩ hzp hzp) rfl ?_
        conv => whnf
        refine bF (by simp [List.length_map, List.length_append, List.length_take, List.length_drop, List.length_cons, List.length_nil, slC, dfC, netX, net0, List.map_nil, mix_len, pkX, slX, sl0, delS]; done) ?_
        conv => whnf
        refine bF (by simp [List.length_map, List.length_append, List.length_take, List.length_drop, List.length_cons, List.length_nil, slC, dfC, netX, net0, List.map_nil, mix_len, pkX, slX, sl0, delS]; done) ?_
        conv => whnf
        refine bF (by simp [List.length_map, List.length_append, List.length_take, List.length_drop, List.length_cons, List.length_nil, slC, dfC, netX, net0, List.map_nil, mix_len, pkX, slX, sl0, delS]; done) ?_
        conv => whnf
        refine .ct ?_
        conv => whnf
        refine CallG.mk (same6_X _ _ _ _ _ _ RD.1 RD.1 hzD hzD) rfl ?_
        conv => whnf
        refine bF (by simp [List.length_map, List.length_append, List.length_take, List.length_drop, List.length_cons, List.length_nil, slC, dfC, netX, net0, List.map_nil, mix_len, pkX, slX, sl0, delS]; done) ?_
        conv => whnf
        refine bF (by simp [List.length_map, List.length_append, List.length_take, List.length_drop, List.length_cons, List.length_nil, slC, dfC, netX, net0, List.map_nil, mix_len, pkX, slX, sl0, delS]; done) ?_
        conv => whnf
        refine bF (by simp [List.length_map, List.length_append, List.length_take, List.length_drop, List.length_cons, List.length_nil, slC, dfC, netX, net0, List.map_nil, mix_len, pkX, slX, sl0, delS]; done) ?_
        conv => whnf
        refine .ct ?_
        conv => whnf
        refine CallG.mk (same6_X _ _ _ _ _ _ RL.1 RL.1 hzL hzL) rfl ?_
        conv => whnf
        refine bF (by simp [List.length_map, List.length_append, List.length_take, List.length_drop, List.length_cons, List.length_nil, slC, dfC, netX, net0, List.map_nil, mix_len, pkX, slX, sl0, delS]; done) ?_
        conv => whnf
        refine bF (by simp [List.length_map, List.length_append, List.length_take, List.length_drop, List.length_cons, List.length_nil, slC, dfC, netX, net0, List.map_nil, mix_len, pkX, slX, sl0, delS]; done) ?_
        conv => whnf
        refine bF (by simp [List.length_map, List.length_append, List.length_take, List.length_drop, List.length_cons, List.length_nil, slC, dfC, netX, net0, List.map_nil, mix_len, pkX, slX, sl0, delS]; done) ?_
        conv => whnf
        refine bF (by simp [List.length_map, List.length_append, List.length_take, List.length_drop, List.length_cons, List.length_nil, slC, dfC, netX, net0, List.map_nil, mix_len, pkX, slX, sl0, delS]; done) ?_
        conv => whnf
        refine bF (by simp [List.length_map, List.length_append, List.length_take, List.length_drop, List.length_cons, List.length_nil, slC, dfC, netX, net0, List.map_nil, mix_len, pkX, slX, sl0, delS]; done) ?_
        conv => whnf
        refine .ct ?_
        conv => whnf
        refine CallG.mk (same6_X _ _ _ _ _ _ RB.1 RB.1 hzB hzB) rfl ?_
        conv => whnf
        refine bF (by simp [List.length_map, List.length_append, List.length_take, List.length_drop, List.length_cons, List.length_nil, slC, dfC, netX, net0, List.map_nil, mix_len, pkX, slX, sl0, delS]; done) ?_
        conv => whnf
        refine bF (by simp [List.length_map, List.length_append, List.length_take, List.length_drop, List.length_cons, List.length_nil, slC, dfC, netX, net0, List.map_nil, mix_len, pkX, slX, sl0, delS]; done) ?_
        conv => whnf
        refine bF (by simp [List.length_map, List.length_append, List.length_take, List.length_drop, List.length_cons, List.length_nil, slC, dfC, netX, net0, List.map_nil, mix_len, pkX, slX, sl0, delS]; done) ?_
        conv => whnf
        refine XT.keep [(2, pkV RD.2.1.f RD.2.1.t), (0, sloV RM.1.a RM.1.f RM.1.t)] [(148, arr3)] R3 rfl rfl (bl3 (y0 := ((RD.1, RL.1, RB.1), RD.2.1.b, RM.1.b)) ⟨hzD, hzL, hzB, hzp, hzm⟩ rfl rfl rfl rfl) ?_
        intro y hy
        conv => whnf
        refine XT.loop tabX_ok (Y := Nat × Y3) [25, 148, 149, 150, 151, 152, 153, 154] (fun (k, y) => [(149, .p (.v (.int .i64 ((k : Int)))) (nlv _)), (148, arr3 y)]) (fun (k, y) => [(2, .cells 63 (pkV RD.2.1.f RD.2.1.t y)), (0, .cells 65 (sloV RM.1.a RM.1.f RM.1.t y))]) (fun (k, y) => k ≤ 3 ∧ R3 y) (fun (k, y) => 3 - k) (0, y) ⟨by omega, hy⟩ ?_ ?_
        · skip
          refine ⟨?_, ?_, ?_⟩
          · skip
            refine leEnv_app (by kernel_rfl) (by kernel_rfl) ?_
            repeat ((conv => whnf); first | exact True.intro | refine ⟨.rfl, ?_⟩ | refine ⟨.any, ?_⟩ | refine ⟨.nil, ?_⟩ | refine ⟨.int (by first | rfl | omega | (simp only [wrs]; omega)), ?_⟩)
          · skip
            repeat (first | exact LeVs.nil | ((conv => whnf); first | exact True.intro | exact .none | exact .row rfl | refine .cells ?_ | refine ⟨_, _, rfl, .rfl, ?_⟩ | refine ⟨_, _, rfl, .any, ?_⟩ | refine ⟨_, _, rfl, .nil, ?_⟩ | refine ⟨_, _, rfl, .int (by first | rfl | omega | (simp only [wrs]; omega)), ?_⟩ | refine ⟨?_, ?_⟩))
            done
          · skip
            exact LeFr.same (by kernel_rfl)
        · skip
          rintro ⟨k, y⟩ ⟨hk, hy1⟩
          rcases (show k = 0 ∨ k = 1 ∨ k = 2 ∨ k = 3 by omega) with rfl | rfl | rfl | rfl
          · skip
            conv => whnf
            refine ⟨_, rfl, ?_⟩
            conv => whnf
            refine ⟨by simp only [bls]; omega, ?_⟩
            conv => whnf
            refine .wr (WCall.spoilL [(2, pkV RD.2.1.f RD.2.1.t), (0, sloV RM.1.a RM.1.f RM.1.t)] [(148, arr3)] R3 (sz_spoil hy1.a) rfl rfl rfl (bl3 hy1 rfl rfl rfl rfl) ?_); intro y2 hy2
            conv => whnf
            refine ⟨(1, y2), ⟨by omega, hy2⟩, (by show 3 - 1 < 3 - 0; omega), ?_⟩
            refine ⟨?_, ?_, ?_⟩
            · skip
              refine leEnv_app (by kernel_rfl) (by kernel_rfl) ?_
              repeat ((conv => whnf); first | exact True.intro | refine ⟨.rfl, ?_⟩ | refine ⟨.any, ?_⟩ | refine ⟨.nil, ?_⟩ | refine ⟨.int (by first | rfl | omega | (simp only [wrs]; omega)), ?_⟩)
            · skip
              repeat (first | exact LeVs.nil | ((conv => whnf); first | exact True.intro | exact .none | exact .row rfl | refine .cells ?_ | refine ⟨_, _, rfl, .rfl, ?_⟩ | refine ⟨_, _, rfl, .any, ?_⟩ | refine ⟨_, _, rfl, .nil, ?_⟩ | refine ⟨_, _, rfl, .int (by first | rfl | omega | (simp only [wrs]; omega)), ?_⟩ | refine ⟨?_, ?_⟩))
              done
            · skip
              exact LeFr.same (by kernel_rfl)
          · skip
            conv => whnf
            refine ⟨_, rfl, ?_⟩
            conv => whnf
            refine ⟨by simp only [bls]; omega, ?_⟩
            conv => whnf
            refine .wr (WCall.spoilL [(2, pkV RD.2.1.f RD.2.1.t), (0, sloV RM.1.a RM.1.f RM.1.t)] [(148, arr3)] R3 (sz_spoil hy1.b) rfl rfl rfl (bl3 hy1 rfl rfl rfl rfl) ?_); intro y2 hy2
            conv => whnf
            refine ⟨(2, y2), ⟨by omega, hy2⟩, (by show 3 - 2 < 3 - 1; omega), ?_⟩
            refine ⟨?_, ?_, ?_⟩
            · skip
              refine leEnv_app (by kernel_rfl) (by kernel_rfl) ?_
              repeat ((conv => whnf); first | exact True.intro | refine ⟨.rfl, ?_⟩ | refine ⟨.any, ?_⟩ | refine ⟨.nil, ?_⟩ | refine ⟨.int (by first | rfl | omega | (simp only [wrs]; omega)), ?_⟩)
            · skip
              repeat (first | exact LeVs.nil | ((conv => whnf); first | exact True.intro | exact .none | exact .row rfl | refine .cells ?_ | refine ⟨_, _, rfl, .rfl, ?_⟩ | refine ⟨_, _, rfl, .any, ?_⟩ | refine ⟨_, _, rfl, .nil, ?_⟩ | refine ⟨_, _, rfl, .int (by first | rfl | omega | (simp only [wrs]; omega)), ?_⟩ | refine ⟨?_, ?_⟩))
              done
            · skip
              exact LeFr.same (by kernel_rfl)
          · skip
            conv => whnf
            refine ⟨_, rfl, ?_⟩
            conv => whnf
            refine ⟨by simp only [bls]; omega, ?_⟩
            conv => whnf
            refine .wr (WCall.spoilL [(2, pkV RD.2.1.f RD.2.1.t), (0, sloV RM.1.a RM.1.f RM.1.t)] [(148, arr3)] R3 (sz_spoil hy1.c) rfl rfl rfl (bl3 hy1 rfl rfl rfl rfl) ?_); intro y2 hy2
            conv => whnf
            refine ⟨(3, y2), ⟨by omega, hy2⟩, (by show 3 - 3 < 3 - 2; omega), ?_⟩
            refine ⟨?_, ?_, ?_⟩
            · skip
              refine leEnv_app (by kernel_rfl) (by kernel_rfl) ?_
              repeat ((conv => whnf); first | exact True.intro | refine ⟨.rfl, ?_⟩ | refine ⟨.any, ?_⟩ | refine ⟨.nil, ?_⟩ | refine ⟨.int (by first | rfl | omega | (simp only [wrs]; omega)), ?_⟩)
            · skip
              repeat (first | exact LeVs.nil | ((conv => whnf); first | exact True.intro | exact .none | exact .row rfl | refine .cells ?_ | refine ⟨_, _, rfl, .rfl, ?_⟩ | refine ⟨_, _, rfl, .any, ?_⟩ | refine ⟨_, _, rfl, .nil, ?_⟩ | refine ⟨_, _, rfl, .int (by first | rfl | omega | (simp only [wrs]; omega)), ?_⟩ | refine ⟨?_, ?_⟩))
              done
            · skip
              exact LeFr.same (by kernel_rfl)
          · skip
            conv => whnf
            refine XT.marks [(35, .p (.v (.bool true)) (nlv _)), (40, .p (.v (.bool true)) (nlv _))] ?_
            refine XT.loop tabX_ok (Y := Nat × Y3) [25, 26, 148, 151, 152, 156, 158, 159, 160, 161, 162, 163, 164, 165, 166, 167, 168] (fun (q, z) => [(158, .p (.v (.int .i64 ((q : Int)))) (nlv _))]) (fun (q, z) => [(2, .cells 63 (pkV RD.2.1.f RD.2.1.t z)), (0, .cells 65 (sloV RM.1.a RM.1.f RM.1.t z))]) (fun (q, z) => q ≤ y.2.1.length ∧ z.2.1.length = y.2.1.length ∧ z.2.2.length = y.2.2.length) (fun (q, z) => y.2.1.length - q) (0, y) ⟨Nat.zero_le _, rfl, rfl⟩ ?_ ?_
            · skip
              refine ⟨?_, ?_, ?_⟩
              · skip
                refine leEnv_app (by kernel_rfl) (by kernel_rfl) ?_
                repeat ((conv => whnf); first | exact True.intro | refine ⟨.rfl, ?_⟩ | refine ⟨.any, ?_⟩ | refine ⟨.nil, ?_⟩ | refine ⟨.int (by first | rfl | omega | (simp only [wrs]; omega)), ?_⟩)
              · skip
                repeat (first | exact LeVs.nil | ((conv => whnf); first | exact True.intro | exact .none | exact .row rfl | refine .cells ?_ | refine ⟨_, _, rfl, .rfl, ?_⟩ | refine ⟨_, _, rfl, .any, ?_⟩ | refine ⟨_, _, rfl, .nil, ?_⟩ | refine ⟨_, _, rfl, .int (by first | rfl | omega | (simp only [wrs]; omega)), ?_⟩ | refine ⟨?_, ?_⟩))
                done
              · skip
                exact LeFr.same (by kernel_rfl)
            · skip
              rintro ⟨q, z⟩ ⟨hq, hz1, hz2⟩
              have hyp := hy1.p
              have hys := hy1.s
              conv => whnf
              refine bS (fun hc37 => ?_) (fun hc37 => ?_)
              · skip
                try simp only [bls] at hc37
                conv => whnf
                refine XT.overL tabX_ok 6 [(2, pkV RD.2.1.f RD.2.1.t), (0, sloV RM.1.a RM.1.f RM.1.t)] [] (fun z2 : Y3 => z2.2.1.length = z.2.1.length ∧ z2.2.2.length = z.2.2.length) rfl ⟨rfl, rfl, rfl⟩ ⟨rfl, rfl, rfl⟩ (tT rfl) rfl (tT rfl) rfl (tT rfl) rfl rfl rfl ?_
                conv => whnf
                refine IdxG.map (l := z.2.1) _ rfl (by first | omega | (simp only [List.length_map] at *; omega)) ?_; intro yb hyb hnyb
                conv => whnf
                refine ⟨rfl, ?_⟩
                conv => whnf
                simp (disch := omega) only [wz, Int.reduceAdd, Int.reduceSub, Int.reduceMul, Int.reduceNeg, Int.zero_add, Int.add_zero, Int.sub_zero, Int.sub_self]
                conv => whnf
                refine ⟨z.2.1, (nl_by1 _).sl, q, nlv _, IntKind.u8.wrap (yb + 1), rfl, rfl, by omega, fun v => rfl, rfl, bl2 (y0 := z) rfl rfl, ?_⟩; intro z2 hz3
                conv => whnf
                refine ⟨(q + 1, z2), ⟨by omega, hz3.1.trans hz1, hz3.2.trans hz2⟩, (by show y.2.1.length - (q + 1) < y.2.1.length - q; omega), ?_⟩
                refine ⟨?_, ?_, ?_⟩
                · skip
                  refine leEnv_app (by kernel_rfl) (by kernel_rfl) ?_
                  repeat ((conv => whnf); first | exact True.intro | refine ⟨.rfl, ?_⟩ | refine ⟨.any, ?_⟩ | refine ⟨.nil, ?_⟩ | refine ⟨.int (by first | rfl | omega | (simp only [wrs]; omega)), ?_⟩)
                · skip
                  repeat (first | exact LeVs.nil | ((conv => whnf); first | exact True.intro | exact .none | exact .row rfl | refine .cells ?_ | refine ⟨_, _, rfl, .rfl, ?_⟩ | refine ⟨_, _, rfl, .any, ?_⟩ | refine ⟨_, _, rfl, .nil, ?_⟩ | refine ⟨_, _, rfl, .int (by first | rfl | omega | (simp only [wrs]; omega)), ?_⟩ | refine ⟨?_, ?_⟩))
                  done
                · skip
                  exact LeFr.same (by kernel_rfl)
              · skip
                try simp only [bls] at hc37
                conv => whnf
                refine XT.loop tabX_ok (Y := Nat × Y3) [27, 148, 156, 171, 173, 174, 175, 176, 177, 178, 179, 180, 181, 182, 183, 184] (fun (q2, v) => [(173, .p (.v (.int .i64 ((q2 : Int)))) (nlv _))]) (fun (q2, v) => [(2, .cells 63 (pkV RD.2.1.f RD.2.1.t v)), (0, .cells 65 (sloV RM.1.a RM.1.f RM.1.t v))]) (fun (q2, v) => q2 ≤ z.2.2.length ∧ v.2.1.length = z.2.1.length ∧ v.2.2.length = z.2.2.length) (fun (q2, v) => z.2.2.length - q2) (0, z) ⟨Nat.zero_le _, rfl, rfl⟩ ?_ ?_
                · skip
                  refine ⟨?_, ?_, ?_⟩
                  · skip
                    refine leEnv_app (by kernel_rfl) (by kernel_rfl) ?_
                    repeat ((conv => whnf); first | exact True.intro | refine ⟨.rfl, ?_⟩ | refine ⟨.any, ?_⟩ | refine ⟨.nil, ?_⟩ | refine ⟨.int (by first | rfl | omega | (simp only [wrs]; omega)), ?_⟩)
                  · skip
                    repeat (first | exact LeVs.nil | ((conv => whnf); first | exact True.intro | exact .none | exact .row rfl | refine .cells ?_ | refine ⟨_, _, rfl, .rfl, ?_⟩ | refine ⟨_, _, rfl, .any, ?_⟩ | refine ⟨_, _, rfl, .nil, ?_⟩ | refine ⟨_, _, rfl, .int (by first | rfl | omega | (simp only [wrs]; omega)), ?_⟩ | refine ⟨?_, ?_⟩))
                    done
                  · skip
                    exact LeFr.same (by kernel_rfl)
                · skip
                  rintro ⟨q2, v⟩ ⟨hq2, hv1, hv2⟩
                  have hyp := hy1.p
                  have hys := hy1.s
                  conv => whnf
                  refine bS (fun hc38 => ?_) (fun hc38 => ?_)
                  · skip
                    try simp only [bls] at hc38
                    conv => whnf
                    refine XT.overL tabX_ok 7 [(2, pkV RD.2.1.f RD.2.1.t), (0, sloV RM.1.a RM.1.f RM.1.t)] [] (fun z2 : Y3 => z2.2.1.length = v.2.1.length ∧ z2.2.2.length = v.2.2.length) rfl ⟨rfl, rfl, rfl⟩ ⟨rfl, rfl, rfl⟩ (tT rfl) rfl (tT rfl) rfl (tT rfl) rfl rfl rfl ?_
                    conv => whnf
                    refine IdxG.map (l := v.2.2) _ rfl (by first | omega | (simp only [List.length_map] at *; omega)) ?_; intro yb hyb hnyb
                    conv => whnf
                    refine ⟨rfl, ?_⟩
                    conv => whnf
                    simp (disch := omega) only [wz, Int.reduceAdd, Int.reduceSub, Int.reduceMul, Int.reduceNeg, Int.zero_add, Int.add_zero, Int.sub_zero, Int.sub_self]
                    conv => whnf
                    refine ⟨v.2.2, (nl_by1 _).sl, q2, nlv _, IntKind.u8.wrap (yb + 1), rfl, rfl, by omega, fun v => rfl, rfl, bl2 (y0 := v) rfl rfl, ?_⟩; intro z2 hz3
                    conv => whnf
                    refine ⟨(q2 + 1, z2), ⟨by omega, hz3.1.trans hv1, hz3.2.trans hv2⟩, (by show z.2.2.length - (q2 + 1) < z.2.2.length - q2; omega), ?_⟩
                    refine ⟨?_, ?_, ?_⟩
                    · skip
                      refine leEnv_app (by kernel_rfl) (by kernel_rfl) ?_
                      repeat ((conv => whnf); first | exact True.intro | refine ⟨.rfl, ?_⟩ | refine ⟨.any, ?_⟩ | refine ⟨.nil, ?_⟩ | refine ⟨.int (by first | rfl | omega | (simp only [wrs]; omega)), ?_⟩)
                    · skip
                      repeat (first | exact LeVs.nil | ((conv => whnf); first | exact True.intro | exact .none | exact .row rfl | refine .cells ?_ | refine ⟨_, _, rfl, .rfl, ?_⟩ | refine ⟨_, _, rfl, .any, ?_⟩ | refine ⟨_, _, rfl, .nil, ?_⟩ | refine ⟨_, _, rfl, .int (by first | rfl | omega | (simp only [wrs]; omega)), ?_⟩ | refine ⟨?_, ?_⟩))
                      done
                    · skip
                      exact LeFr.same (by kernel_rfl)
                  · skip
                    try simp only [bls] at hc38
                    conv => whnf
                    refine ⟨⟨⟨_, _, rfl⟩, rfl, ⟨_, _, rfl⟩, rfl, True.intro⟩, ?_⟩
                    conv => whnf
                    refine XT.pass tabX_ok ?_
                    conv => whnf
                    refine .ct ?_
                    conv => whnf
                    refine CallG.mk (same6_X _ _ _ _ _ _ n n hsz hsz) rfl ?_
                    conv => whnf
                    refine FinG.mk none ?_ (by rintro _ ⟨⟩)
                    simp only [outs, List.length_map, List.length_append, List.length_take, List.length_drop, List.length_cons, List.length_nil, slC, dfC, netX, net0, List.map_nil, mix_len, pkX, slX, sl0, delS]
                    simp; done
end Go.Proofs.Ytmhmldpccccjbaa

namespace Go.Proofs.Ytmhmldpccccjbaa
open Go.RowKit
set_option linter.unusedVariables false
set_option linter.unusedSimpArgs false
set_option maxRecDepth 20000
set_option maxRecDepth 20000 in
theorem lTakes_X (b c e g : Bool) (n0 : NetA) (ps : List Int) (hn : n0.In) (hpi : ∀ x ∈ ps, I64 x) (hps : ps.length ≤ 9223372036854775807) : XMeets Try.prog 3 [netT b c e n0, .sl g (ps.map inC)] (.p (.v (.bool (true))) (nlv _)) := by
  refine XMeets.of_X tabX_ok (avs := [.ag [.p (.sl false (n0.s.map (slC false))) (nl_sl _ _).sl, .p (.v (.int .i64 n0.l)) (nlv _), .p (.sl false (n0.d.map dfC)) (nl_df _).sl], .p (.sl false (ps.map inC)) (nl_in _).sl]) [(0, .ag [.p (.sl false (n0.s.map (slC false))) (nl_sl _ _).sl, .p (.v (.int .i64 n0.l)) (nlv _), .p (.sl false (n0.d.map dfC)) (nl_df _).sl]), (1, .p (.sl false (ps.map inC)) (nl_in _).sl)] (by kernel_rfl) Try.func3 rfl (by simp [PuL, Pu, netT, slC, dfC, sdC, pu_by1, pu_sl, pu_df, pu_sd, pu_in]) (by simp only [untagL, untag, netT, untag_by1, untag_sl, untag_df, untag_in, untag_sd]; rfl) rfl rfl ?_
  intro B w0
  obtain ⟨n, hnn⟩ : ∃ n, fewN n0 = n := ⟨_, rfl⟩
  have ho : n.Ok := hnn ▸ few_ok hn
  conv => whnf
  refine .ct ?_
  conv => whnf
  refine CallG.mk (wakes_X) rfl ?_
  conv => whnf
  refine RegG.par 6 (by kernel_rfl) ?_
  conv => whnf
  refine CallG.mk ((few_X _ _ _ n0 hn).eq (by rw [hnn])) rfl ?_
  conv => whnf
  refine CallG.mk ((few_X _ _ _ n0 hn).eq (by rw [hnn])) rfl ?_
  conv => whnf
  refine XT.loop tabX_ok (Y := Nat) [4, 7, 8, 17, 18, 19, 20, 21, 22, 23, 24, 25, 26, 27, 28, 29] (fun k => [(17, .p (.v (.int .i64 ((k : Int)))) (nlv _))]) (fun k => []) (fun k => k ≤ ps.length) (fun k => ps.length - k) 0 (Nat.zero_le _) ?_ ?_
  · skip
    refine ⟨?_, ?_, ?_⟩
    · skip
      refine leEnv_app (by kernel_rfl) (by kernel_rfl) ?_
      repeat ((conv => whnf); first | exact True.intro | refine ⟨.rfl, ?_⟩ | refine ⟨.any, ?_⟩ | refine ⟨.nil, ?_⟩ | refine ⟨.int (by first | rfl | omega | (simp only [wrs]; omega)), ?_⟩)
    · skip
      repeat (first | exact LeVs.nil | ((conv => whnf); first | exact True.intro | exact .none | exact .row rfl | refine .cells ?_ | refine ⟨_, _, rfl, .rfl, ?_⟩ | refine ⟨_, _, rfl, .any, ?_⟩ | refine ⟨_, _, rfl, .nil, ?_⟩ | refine ⟨_, _, rfl, .int (by first | rfl | omega | (simp only [wrs]; omega)), ?_⟩ | refine ⟨?_, ?_⟩))
      done
    · skip
      exact LeFr.nil
  · skip
    rintro k hk
    conv => whnf
    refine bS (fun hc1 => ?_) (fun hc1 => ?_)
    · skip
      try simp only [bls] at hc1
      conv => whnf
      refine IdxG.map _ rfl (by first | omega | (simp only [List.length_map] at *; omega)) ?_; intro x hx hxn; have hxi := hpi x (List.mem_of_getElem? hx)
      conv => whnf
      refine ⟨rfl, ?_⟩
      conv => whnf
      refine bS (fun hc2 => ?_) (fun hc2 => ?_)
      · skip
        try simp only [bls] at hc2
        conv => whnf
        refine FinG.mk none ?_ (by rintro _ ⟨⟩)
        simp only [outs, List.length_map, List.length_append, List.length_take, List.length_drop, List.length_cons, List.length_nil, slC, dfC, netX, net0, List.map_nil, mix_len, pkX, slX, sl0, delS]
      · skip
        try simp only [bls] at hc2
        conv => whnf
        refine .ct ?_
        conv => whnf
        refine CallG.mk (takes_X _ _ _ _ _ _ n x ho hxi) rfl ?_
        conv => whnf
        refine ⟨(k + 1), (by first | omega | (simp only [List.length_map] at *; omega)), (by first | omega | (simp only [List.length_map] at *; omega)), ?_⟩
        refine ⟨?_, ?_, ?_⟩
        · skip
          refine leEnv_app (by kernel_rfl) (by kernel_rfl) ?_
          repeat ((conv => whnf); first | exact True.intro | refine ⟨.rfl, ?_⟩ | refine ⟨.any, ?_⟩ | refine ⟨.nil, ?_⟩ | refine ⟨.int (by first | rfl | omega | (simp only [wrs]; omega)), ?_⟩)
        · skip
          repeat (first | exact LeVs.nil | ((conv => whnf); first | exact True.intro | exact .none | exact .row rfl | refine .cells ?_ | refine ⟨_, _, rfl, .rfl, ?_⟩ | refine ⟨_, _, rfl, .any, ?_⟩ | refine ⟨_, _, rfl, .nil, ?_⟩ | refine ⟨_, _, rfl, .int (by first | rfl | omega | (simp only [wrs]; omega)), ?_⟩ | refine ⟨?_, ?_⟩))
          done
        · skip
          exact LeFr.nil
    · skip
      try simp only [bls] at hc1
      conv => whnf
      refine FinG.mk none ?_ (by rintro _ ⟨⟩)
      simp only [outs, List.length_map, List.length_append, List.length_take, List.length_drop, List.length_cons, List.length_nil, slC, dfC, netX, net0, List.map_nil, mix_len, pkX, slX, sl0, delS]
end Go.Proofs.Ytmhmldpccccjbaa
