/- Tokens' text by definition; the walk of LexPrints. Condition: what the package-level variables hold. -/
import Derived.Test.YtekpmlfcmnlmiaaGreatDoorX11
namespace Go.Proofs.YtekpmlfcmnlmiaaGreatDoor
open Go.RowKit
set_option linter.unusedVariables false
set_option linter.unusedSimpArgs false
set_option maxRecDepth 20000
theorem rgt_len {l : List Yl} (h : rgtB l = true) : l.length ≤ 300 := by
  unfold rgtB at h
  rw [Bool.and_eq_true] at h
  exact of_decide_eq_true h.2
theorem rgt_n {l : List Yl} (h : rgtB l = true) : ∀ y ∈ l, y.k = 3 → 0 ≤ y.n := fun y hy hk => by
  unfold rgtB at h
  rw [Bool.and_eq_true] at h
  have h1 := List.all_eq_true.1 h.1 y hy
  rw [one_3 hk] at h1
  simp at h1
  exact h1.2
theorem sz1 (c : UInt8) : (⟨#[c]⟩ : ByteArray).size = 1 := rfl
theorem txk_sz {l : List Yl} (h : l.length ≤ 300) (hin : TokInL l) (k : Nat) : (txk l k).size ≤ 140737488355328 := by
  have h1 := txt_len (l := l.take k) (by rw [List.length_take]; omega) (fun y hy => hin y (List.mem_of_mem_take hy))
  rw [← bs_len]
  exact h1
set_option maxRecDepth 20000 in
theorem text6_X (b : Bool) (l : List Yl) (hl : l.length ≤ 300) (hin : TokInL l) (hr : ∀ y ∈ l, y.k = 3 → 0 ≤ y.n) : XMeets Tryz.prog 13 [.sl b (l.map tokC)] (.p (.v (.string (txtS l))) (nlv _)) := by
  refine XMeets.of_X tabX_ok (avs := [.p (.sl false (l.map tokC)) (nl_tok _).sl]) [(0, .p (.sl false (l.map tokC)) (nl_tok _).sl)] (by kernel_rfl) Tryz.func13 rfl (by simp [PuL, Pu, pu_tok]) (by simp [untagL, untag, untag_tok, XV.den, XV.denL]) rfl rfl ?_
  intro B w0
  conv => whnf
  refine XT.loop tabX_ok (Y := Nat) [3, 4, 5, 8, 9, 10, 11, 12, 13, 14, 15, 16, 17, 18, 19, 20, 21, 22, 23, 24, 25, 26, 27, 28, 29, 30, 31, 32, 33, 34, 35, 36, 37] (fun k => [(8, .p (.v (.int .i64 ((k : Int)))) (nlv _)), (3, .p (.v (.string (txk l k))) (nlv _))]) (fun k => []) (fun k => k ≤ l.length) (fun k => l.length - k) 0 (Nat.zero_le _) ?_ ?_
  · skip
    refine ⟨?_, ?_, ?_⟩
    · skip
      refine leEnv_app (by kernel_rfl) (by kernel_rfl) ?_
      repeat ((conv => whnf); first | exact True.intro | refine ⟨.rfl, ?_⟩ | refine ⟨.any, ?_⟩ | refine ⟨.nil, ?_⟩ | refine ⟨.int (by first | rfl | omega | (simp only [wrs]; omega)), ?_⟩ | refine ⟨.tv (by rw [txk_0]), ?_⟩ | refine ⟨.tv (by rw [← wri_3 (y := y) (by assumption), txk_a hy (by omega)]), ?_⟩ | refine ⟨.tv (by rw [← wri_3 (y := y) (by assumption), txk_b hy (by omega)]), ?_⟩ | refine ⟨.tv (by rw [← wri_4 (y := y) (by assumption), txk_a hy (by omega)]), ?_⟩ | refine ⟨.tv (by rw [← wri_4 (y := y) (by assumption), txk_b hy (by omega)]), ?_⟩ | refine ⟨.tv (by rw [← wri_o (y := y) (by assumption) (by assumption), txk_a hy (by omega)]), ?_⟩ | refine ⟨.tv (by rw [← wri_o (y := y) (by assumption) (by assumption), txk_b hy (by omega)]), ?_⟩)
    · skip
      repeat (first | exact LeVs.nil | ((conv => whnf); first | exact True.intro | exact .none | exact .row rfl | refine .cells ?_ | refine ⟨_, _, rfl, .rfl, ?_⟩ | refine ⟨_, _, rfl, .any, ?_⟩ | refine ⟨_, _, rfl, .nil, ?_⟩ | refine ⟨_, _, rfl, .int (by first | rfl | omega | (simp only [wrs]; omega)), ?_⟩ | refine ⟨_, _, rfl, .tv (by rw [txk_0]), ?_⟩ | refine ⟨_, _, rfl, .tv (by rw [← wri_3 (y := y) (by assumption), txk_a hy (by omega)]), ?_⟩ | refine ⟨_, _, rfl, .tv (by rw [← wri_3 (y := y) (by assumption), txk_b hy (by omega)]), ?_⟩ | refine ⟨_, _, rfl, .tv (by rw [← wri_4 (y := y) (by assumption), txk_a hy (by omega)]), ?_⟩ | refine ⟨_, _, rfl, .tv (by rw [← wri_4 (y := y) (by assumption), txk_b hy (by omega)]), ?_⟩ | refine ⟨_, _, rfl, .tv (by rw [← wri_o (y := y) (by assumption) (by assumption), txk_a hy (by omega)]), ?_⟩ | refine ⟨_, _, rfl, .tv (by rw [← wri_o (y := y) (by assumption) (by assumption), txk_b hy (by omega)]), ?_⟩ | refine ⟨?_, ?_⟩))
      done
    · skip
      exact LeFr.nil
  · skip
    rintro k hk
    have hts := txk_sz hl hin k
    conv => whnf
    refine bS (fun hc1 => ?_) (fun hc1 => ?_)
    · skip
      try simp only [bls] at hc1
      conv => whnf
      refine IdxG.map (f := tokC) (l := l) k rfl (by first | omega | (simp only [List.length_map, List.length_take, List.length_nil] at *; omega)) ?_; intro y hy hky; have hyi := hin y (List.mem_of_getElem? hy); have hyr := hr y (List.mem_of_getElem? hy); have hyn := hyi.1.2; have hyt := hyi.2; have hw3 := ito_len hyi.1; have hw4 := quo_size y.t
      conv => whnf
      refine ⟨rfl, ?_⟩
      conv => whnf
      refine bS (fun hc2 => ?_) (fun hc2 => ?_)
      · skip
        try simp only [bls] at hc2
        conv => whnf
        refine ⟨by simp only [ByteArray.size_append, sz1]; omega, ?_⟩
        conv => whnf
        refine bS (fun hc3 => ?_) (fun hc3 => ?_)
        · skip
          try simp only [bls] at hc3
          conv => whnf
          refine .ct ?_
          conv => whnf
          refine CallG.mk (digits_X y.n (hyr (by assumption)) (by omega)) rfl ?_
          conv => whnf
          refine ⟨by simp only [ByteArray.size_append, sz1]; omega, ?_⟩
          conv => whnf
          refine ⟨(k + 1), (by first | omega | (simp only [List.length_map, List.length_take, List.length_nil] at *; omega)), (by first | omega | (simp only [List.length_map, List.length_take, List.length_nil] at *; omega)), ?_⟩
          refine ⟨?_, ?_, ?_⟩
          · skip
            refine leEnv_app (by kernel_rfl) (by kernel_rfl) ?_
            repeat ((conv => whnf); first | exact True.intro | refine ⟨.rfl, ?_⟩ | refine ⟨.any, ?_⟩ | refine ⟨.nil, ?_⟩ | refine ⟨.int (by first | rfl | omega | (simp only [wrs]; omega)), ?_⟩ | refine ⟨.tv (by rw [txk_0]), ?_⟩ | refine ⟨.tv (by rw [← wri_3 (y := y) (by assumption), txk_a hy (by omega)]), ?_⟩ | refine ⟨.tv (by rw [← wri_3 (y := y) (by assumption), txk_b hy (by omega)]), ?_⟩ | refine ⟨.tv (by rw [← wri_4 (y := y) (by assumption), txk_a hy (by omega)]), ?_⟩ | refine ⟨.tv (by rw [← wri_4 (y := y) (by assumption), txk_b hy (by omega)]), ?_⟩ | refine ⟨.tv (by rw [← wri_o (y := y) (by assumption) (by assumption), txk_a hy (by omega)]), ?_⟩ | refine ⟨.tv (by rw [← wri_o (y := y) (by assumption) (by assumption), txk_b hy (by omega)]), ?_⟩)
          · skip
            repeat (first | exact LeVs.nil | ((conv => whnf); first | exact True.intro | exact .none | exact .row rfl | refine .cells ?_ | refine ⟨_, _, rfl, .rfl, ?_⟩ | refine ⟨_, _, rfl, .any, ?_⟩ | refine ⟨_, _, rfl, .nil, ?_⟩ | refine ⟨_, _, rfl, .int (by first | rfl | omega | (simp only [wrs]; omega)), ?_⟩ | refine ⟨_, _, rfl, .tv (by rw [txk_0]), ?_⟩ | refine ⟨_, _, rfl, .tv (by rw [← wri_3 (y := y) (by assumption), txk_a hy (by omega)]), ?_⟩ | refine ⟨_, _, rfl, .tv (by rw [← wri_3 (y := y) (by assumption), txk_b hy (by omega)]), ?_⟩ | refine ⟨_, _, rfl, .tv (by rw [← wri_4 (y := y) (by assumption), txk_a hy (by omega)]), ?_⟩ | refine ⟨_, _, rfl, .tv (by rw [← wri_4 (y := y) (by assumption), txk_b hy (by omega)]), ?_⟩ | refine ⟨_, _, rfl, .tv (by rw [← wri_o (y := y) (by assumption) (by assumption), txk_a hy (by omega)]), ?_⟩ | refine ⟨_, _, rfl, .tv (by rw [← wri_o (y := y) (by assumption) (by assumption), txk_b hy (by omega)]), ?_⟩ | refine ⟨?_, ?_⟩))
            done
          · skip
            exact LeFr.nil
        · skip
          try simp only [bls] at hc3
          conv => whnf
          refine bS (fun hc4 => ?_) (fun hc4 => ?_)
          · skip
            try simp only [bls] at hc4
            conv => whnf
            refine .ct ?_
            conv => whnf
            refine CallG.mk (quote6_X y.t (by omega)) rfl ?_
            conv => whnf
            refine ⟨by simp only [ByteArray.size_append, sz1]; omega, ?_⟩
            conv => whnf
            refine ⟨(k + 1), (by first | omega | (simp only [List.length_map, List.length_take, List.length_nil] at *; omega)), (by first | omega | (simp only [List.length_map, List.length_take, List.length_nil] at *; omega)), ?_⟩
            refine ⟨?_, ?_, ?_⟩
            · skip
              refine leEnv_app (by kernel_rfl) (by kernel_rfl) ?_
              repeat ((conv => whnf); first | exact True.intro | refine ⟨.rfl, ?_⟩ | refine ⟨.any, ?_⟩ | refine ⟨.nil, ?_⟩ | refine ⟨.int (by first | rfl | omega | (simp only [wrs]; omega)), ?_⟩ | refine ⟨.tv (by rw [txk_0]), ?_⟩ | refine ⟨.tv (by rw [← wri_3 (y := y) (by assumption), txk_a hy (by omega)]), ?_⟩ | refine ⟨.tv (by rw [← wri_3 (y := y) (by assumption), txk_b hy (by omega)]), ?_⟩ | refine ⟨.tv (by rw [← wri_4 (y := y) (by assumption), txk_a hy (by omega)]), ?_⟩ | refine ⟨.tv (by rw [← wri_4 (y := y) (by assumption), txk_b hy (by omega)]), ?_⟩ | refine ⟨.tv (by rw [← wri_o (y := y) (by assumption) (by assumption), txk_a hy (by omega)]), ?_⟩ | refine ⟨.tv (by rw [← wri_o (y := y) (by assumption) (by assumption), txk_b hy (by omega)]), ?_⟩)
            · skip
              repeat (first | exact LeVs.nil | ((conv => whnf); first | exact True.intro | exact .none | exact .row rfl | refine .cells ?_ | refine ⟨_, _, rfl, .rfl, ?_⟩ | refine ⟨_, _, rfl, .any, ?_⟩ | refine ⟨_, _, rfl, .nil, ?_⟩ | refine ⟨_, _, rfl, .int (by first | rfl | omega | (simp only [wrs]; omega)), ?_⟩ | refine ⟨_, _, rfl, .tv (by rw [txk_0]), ?_⟩ | refine ⟨_, _, rfl, .tv (by rw [← wri_3 (y := y) (by assumption), txk_a hy (by omega)]), ?_⟩ | refine ⟨_, _, rfl, .tv (by rw [← wri_3 (y := y) (by assumption), txk_b hy (by omega)]), ?_⟩ | refine ⟨_, _, rfl, .tv (by rw [← wri_4 (y := y) (by assumption), txk_a hy (by omega)]), ?_⟩ | refine ⟨_, _, rfl, .tv (by rw [← wri_4 (y := y) (by assumption), txk_b hy (by omega)]), ?_⟩ | refine ⟨_, _, rfl, .tv (by rw [← wri_o (y := y) (by assumption) (by assumption), txk_a hy (by omega)]), ?_⟩ | refine ⟨_, _, rfl, .tv (by rw [← wri_o (y := y) (by assumption) (by assumption), txk_b hy (by omega)]), ?_⟩ | refine ⟨?_, ?_⟩))
              done
            · skip
              exact LeFr.nil
          · skip
            try simp only [bls] at hc4
            conv => whnf
            refine ⟨by simp only [ByteArray.size_append, sz1]; omega, ?_⟩
            conv => whnf
            refine ⟨(k + 1), (by first | omega | (simp only [List.length_map, List.length_take, List.length_nil] at *; omega)), (by first | omega | (simp only [List.length_map, List.length_take, List.length_nil] at *; omega)), ?_⟩
            refine ⟨?_, ?_, ?_⟩
            · skip
              refine leEnv_app (by kernel_rfl) (by kernel_rfl) ?_
              repeat ((conv => whnf); first | exact True.intro | refine ⟨.rfl, ?_⟩ | refine ⟨.any, ?_⟩ | refine ⟨.nil, ?_⟩ | refine ⟨.int (by first | rfl | omega | (simp only [wrs]; omega)), ?_⟩ | refine ⟨.tv (by rw [txk_0]), ?_⟩ | refine ⟨.tv (by rw [← wri_3 (y := y) (by assumption), txk_a hy (by omega)]), ?_⟩ | refine ⟨.tv (by rw [← wri_3 (y := y) (by assumption), txk_b hy (by omega)]), ?_⟩ | refine ⟨.tv (by rw [← wri_4 (y := y) (by assumption), txk_a hy (by omega)]), ?_⟩ | refine ⟨.tv (by rw [← wri_4 (y := y) (by assumption), txk_b hy (by omega)]), ?_⟩ | refine ⟨.tv (by rw [← wri_o (y := y) (by assumption) (by assumption), txk_a hy (by omega)]), ?_⟩ | refine ⟨.tv (by rw [← wri_o (y := y) (by assumption) (by assumption), txk_b hy (by omega)]), ?_⟩)
            · skip
              repeat (first | exact LeVs.nil | ((conv => whnf); first | exact True.intro | exact .none | exact .row rfl | refine .cells ?_ | refine ⟨_, _, rfl, .rfl, ?_⟩ | refine ⟨_, _, rfl, .any, ?_⟩ | refine ⟨_, _, rfl, .nil, ?_⟩ | refine ⟨_, _, rfl, .int (by first | rfl | omega | (simp only [wrs]; omega)), ?_⟩ | refine ⟨_, _, rfl, .tv (by rw [txk_0]), ?_⟩ | refine ⟨_, _, rfl, .tv (by rw [← wri_3 (y := y) (by assumption), txk_a hy (by omega)]), ?_⟩ | refine ⟨_, _, rfl, .tv (by rw [← wri_3 (y := y) (by assumption), txk_b hy (by omega)]), ?_⟩ | refine ⟨_, _, rfl, .tv (by rw [← wri_4 (y := y) (by assumption), txk_a hy (by omega)]), ?_⟩ | refine ⟨_, _, rfl, .tv (by rw [← wri_4 (y := y) (by assumption), txk_b hy (by omega)]), ?_⟩ | refine ⟨_, _, rfl, .tv (by rw [← wri_o (y := y) (by assumption) (by assumption), txk_a hy (by omega)]), ?_⟩ | refine ⟨_, _, rfl, .tv (by rw [← wri_o (y := y) (by assumption) (by assumption), txk_b hy (by omega)]), ?_⟩ | refine ⟨?_, ?_⟩))
              done
            · skip
              exact LeFr.nil
      · skip
        try simp only [bls] at hc2
        conv => whnf
        refine bS (fun hc5 => ?_) (fun hc5 => ?_)
        · skip
          try simp only [bls] at hc5
          conv => whnf
          refine .ct ?_
          conv => whnf
          refine CallG.mk (digits_X y.n (hyr (by assumption)) (by omega)) rfl ?_
          conv => whnf
          refine ⟨by omega, ?_⟩
          conv => whnf
          refine ⟨(k + 1), (by first | omega | (simp only [List.length_map, List.length_take, List.length_nil] at *; omega)), (by first | omega | (simp only [List.length_map, List.length_take, List.length_nil] at *; omega)), ?_⟩
          refine ⟨?_, ?_, ?_⟩
          · skip
            refine leEnv_app (by kernel_rfl) (by kernel_rfl) ?_
            repeat ((conv => whnf); first | exact True.intro | refine ⟨.rfl, ?_⟩ | refine ⟨.any, ?_⟩ | refine ⟨.nil, ?_⟩ | refine ⟨.int (by first | rfl | omega | (simp only [wrs]; omega)), ?_⟩ | refine ⟨.tv (by rw [txk_0]), ?_⟩ | refine ⟨.tv (by rw [← wri_3 (y := y) (by assumption), txk_a hy (by omega)]), ?_⟩ | refine ⟨.tv (by rw [← wri_3 (y := y) (by assumption), txk_b hy (by omega)]), ?_⟩ | refine ⟨.tv (by rw [← wri_4 (y := y) (by assumption), txk_a hy (by omega)]), ?_⟩ | refine ⟨.tv (by rw [← wri_4 (y := y) (by assumption), txk_b hy (by omega)]), ?_⟩ | refine ⟨.tv (by rw [← wri_o (y := y) (by assumption) (by assumption), txk_a hy (by omega)]), ?_⟩ | refine ⟨.tv (by rw [← wri_o (y := y) (by assumption) (by assumption), txk_b hy (by omega)]), ?_⟩)
          · skip
            repeat (first | exact LeVs.nil | ((conv => whnf); first | exact True.intro | exact .none | exact .row rfl | refine .cells ?_ | refine ⟨_, _, rfl, .rfl, ?_⟩ | refine ⟨_, _, rfl, .any, ?_⟩ | refine ⟨_, _, rfl, .nil, ?_⟩ | refine ⟨_, _, rfl, .int (by first | rfl | omega | (simp only [wrs]; omega)), ?_⟩ | refine ⟨_, _, rfl, .tv (by rw [txk_0]), ?_⟩ | refine ⟨_, _, rfl, .tv (by rw [← wri_3 (y := y) (by assumption), txk_a hy (by omega)]), ?_⟩ | refine ⟨_, _, rfl, .tv (by rw [← wri_3 (y := y) (by assumption), txk_b hy (by omega)]), ?_⟩ | refine ⟨_, _, rfl, .tv (by rw [← wri_4 (y := y) (by assumption), txk_a hy (by omega)]), ?_⟩ | refine ⟨_, _, rfl, .tv (by rw [← wri_4 (y := y) (by assumption), txk_b hy (by omega)]), ?_⟩ | refine ⟨_, _, rfl, .tv (by rw [← wri_o (y := y) (by assumption) (by assumption), txk_a hy (by omega)]), ?_⟩ | refine ⟨_, _, rfl, .tv (by rw [← wri_o (y := y) (by assumption) (by assumption), txk_b hy (by omega)]), ?_⟩ | refine ⟨?_, ?_⟩))
            done
          · skip
            exact LeFr.nil
        · skip
          try simp only [bls] at hc5
          conv => whnf
          refine bS (fun hc6 => ?_) (fun hc6 => ?_)
          · skip
            try simp only [bls] at hc6
            conv => whnf
            refine .ct ?_
            conv => whnf
            refine CallG.mk (quote6_X y.t (by omega)) rfl ?_
            conv => whnf
            refine ⟨by omega, ?_⟩
            conv => whnf
            refine ⟨(k + 1), (by first | omega | (simp only [List.length_map, List.length_take, List.length_nil] at *; omega)), (by first | omega | (simp only [List.length_map, List.length_take, List.length_nil] at *; omega)), ?_⟩
            refine ⟨?_, ?_, ?_⟩
            · skip
              refine leEnv_app (by kernel_rfl) (by kernel_rfl) ?_
              repeat ((conv => whnf); first | exact True.intro | refine ⟨.rfl, ?_⟩ | refine ⟨.any, ?_⟩ | refine ⟨.nil, ?_⟩ | refine ⟨.int (by first | rfl | omega | (simp only [wrs]; omega)), ?_⟩ | refine ⟨.tv (by rw [txk_0]), ?_⟩ | refine ⟨.tv (by rw [← wri_3 (y := y) (by assumption), txk_a hy (by omega)]), ?_⟩ | refine ⟨.tv (by rw [← wri_3 (y := y) (by assumption), txk_b hy (by omega)]), ?_⟩ | refine ⟨.tv (by rw [← wri_4 (y := y) (by assumption), txk_a hy (by omega)]), ?_⟩ | refine ⟨.tv (by rw [← wri_4 (y := y) (by assumption), txk_b hy (by omega)]), ?_⟩ | refine ⟨.tv (by rw [← wri_o (y := y) (by assumption) (by assumption), txk_a hy (by omega)]), ?_⟩ | refine ⟨.tv (by rw [← wri_o (y := y) (by assumption) (by assumption), txk_b hy (by omega)]), ?_⟩)
            · skip
              repeat (first | exact LeVs.nil | ((conv => whnf); first | exact True.intro | exact .none | exact .row rfl | refine .cells ?_ | refine ⟨_, _, rfl, .rfl, ?_⟩ | refine ⟨_, _, rfl, .any, ?_⟩ | refine ⟨_, _, rfl, .nil, ?_⟩ | refine ⟨_, _, rfl, .int (by first | rfl | omega | (simp only [wrs]; omega)), ?_⟩ | refine ⟨_, _, rfl, .tv (by rw [txk_0]), ?_⟩ | refine ⟨_, _, rfl, .tv (by rw [← wri_3 (y := y) (by assumption), txk_a hy (by omega)]), ?_⟩ | refine ⟨_, _, rfl, .tv (by rw [← wri_3 (y := y) (by assumption), txk_b hy (by omega)]), ?_⟩ | refine ⟨_, _, rfl, .tv (by rw [← wri_4 (y := y) (by assumption), txk_a hy (by omega)]), ?_⟩ | refine ⟨_, _, rfl, .tv (by rw [← wri_4 (y := y) (by assumption), txk_b hy (by omega)]), ?_⟩ | refine ⟨_, _, rfl, .tv (by rw [← wri_o (y := y) (by assumption) (by assumption), txk_a hy (by omega)]), ?_⟩ | refine ⟨_, _, rfl, .tv (by rw [← wri_o (y := y) (by assumption) (by assumption), txk_b hy (by omega)]), ?_⟩ | refine ⟨?_, ?_⟩))
              done
            · skip
              exact LeFr.nil
          · skip
            try simp only [bls] at hc6
            conv => whnf
            refine ⟨by omega, ?_⟩
            conv => whnf
            refine ⟨(k + 1), (by first | omega | (simp only [List.length_map, List.length_take, List.length_nil] at *; omega)), (by first | omega | (simp only [List.length_map, List.length_take, List.length_nil] at *; omega)), ?_⟩
            refine ⟨?_, ?_, ?_⟩
            · skip
              refine leEnv_app (by kernel_rfl) (by kernel_rfl) ?_
              repeat ((conv => whnf); first | exact True.intro | refine ⟨.rfl, ?_⟩ | refine ⟨.any, ?_⟩ | refine ⟨.nil, ?_⟩ | refine ⟨.int (by first | rfl | omega | (simp only [wrs]; omega)), ?_⟩ | refine ⟨.tv (by rw [txk_0]), ?_⟩ | refine ⟨.tv (by rw [← wri_3 (y := y) (by assumption), txk_a hy (by omega)]), ?_⟩ | refine ⟨.tv (by rw [← wri_3 (y := y) (by assumption), txk_b hy (by omega)]), ?_⟩ | refine ⟨.tv (by rw [← wri_4 (y := y) (by assumption), txk_a hy (by omega)]), ?_⟩ | refine ⟨.tv (by rw [← wri_4 (y := y) (by assumption), txk_b hy (by omega)]), ?_⟩ | refine ⟨.tv (by rw [← wri_o (y := y) (by assumption) (by assumption), txk_a hy (by omega)]), ?_⟩ | refine ⟨.tv (by rw [← wri_o (y := y) (by assumption) (by assumption), txk_b hy (by omega)]), ?_⟩)
            · skip
              repeat (first | exact LeVs.nil | ((conv => whnf); first | exact True.intro | exact .none | exact .row rfl | refine .cells ?_ | refine ⟨_, _, rfl, .rfl, ?_⟩ | refine ⟨_, _, rfl, .any, ?_⟩ | refine ⟨_, _, rfl, .nil, ?_⟩ | refine ⟨_, _, rfl, .int (by first | rfl | omega | (simp only [wrs]; omega)), ?_⟩ | refine ⟨_, _, rfl, .tv (by rw [txk_0]), ?_⟩ | refine ⟨_, _, rfl, .tv (by rw [← wri_3 (y := y) (by assumption), txk_a hy (by omega)]), ?_⟩ | refine ⟨_, _, rfl, .tv (by rw [← wri_3 (y := y) (by assumption), txk_b hy (by omega)]), ?_⟩ | refine ⟨_, _, rfl, .tv (by rw [← wri_4 (y := y) (by assumption), txk_a hy (by omega)]), ?_⟩ | refine ⟨_, _, rfl, .tv (by rw [← wri_4 (y := y) (by assumption), txk_b hy (by omega)]), ?_⟩ | refine ⟨_, _, rfl, .tv (by rw [← wri_o (y := y) (by assumption) (by assumption), txk_a hy (by omega)]), ?_⟩ | refine ⟨_, _, rfl, .tv (by rw [← wri_o (y := y) (by assumption) (by assumption), txk_b hy (by omega)]), ?_⟩ | refine ⟨?_, ?_⟩))
              done
            · skip
              exact LeFr.nil
    · skip
      try simp only [bls] at hc1
      conv => whnf
      refine FinG.mk none ?_ (by rintro _ ⟨⟩)
      simp only [outs, List.length_map, List.length_append, List.length_take, List.length_drop, List.length_cons, List.length_nil]
      rw [txk_e (by first | omega | (simp only [List.length_map, List.length_take, List.length_nil] at *; omega))]
/-- A row of tokens as an element. -/
def rowT (l : List Yl) : List TV := [.sl false (l.map tokC)]
theorem nl_rowT (l : List (List Yl)) : NlLL (l.map rowT) := .map fun x _ => .cons (nl_tok _).sl .nil
theorem untag_rowT (l : List (List Yl)) : untagLL (l.map rowT) = l.map rowT := by
  rw [untagLL_map]
  refine List.map_congr_left fun x _ => ?_
  simp [rowT, untagL, untag, untag_tok]
theorem pu_rowT (l : List (List Yl)) : PuLL (l.map rowT) := PuLL_map _ _ fun x _ => by
  have := pu_tok x
  simp [rowT, PuL, Pu, this]
theorem prtF {l : List Yl} (hin : TokInL l) (h : rgtB l = false) : chkN l = 202 ∧ (prT l).1 = ⟨#[]⟩ ∧ (prT l).2 = 202 := by
  obtain ⟨h1, h2⟩ := prt_no hin h
  rw [h2]; exact ⟨h1, rfl, rfl⟩
theorem prtL {l : List Yl} (hin : TokInL l) (h : rgtB l = true) (hl : 1024 < (txtS l).size) : chkN l = 0 ∧ (prT l).1 = ⟨#[]⟩ ∧ (prT l).2 = 3 := by
  obtain ⟨h1, h2⟩ := prt_long hin h hl
  rw [h2]; exact ⟨h1, rfl, rfl⟩
theorem prtO {l : List Yl} (hin : TokInL l) (h : rgtB l = true) (hl : ¬ 1024 < (txtS l).size) : chkN l = 0 ∧ (prT l).1 = txtS l ∧ (prT l).2 = 0 := by
  obtain ⟨h1, h2⟩ := prt_ok hin h hl
  rw [h2]; exact ⟨h1, rfl, rfl⟩
attribute [local irreducible] lexT smeL eqlL chkN prT tkS rgtB txtS
set_option maxRecDepth 20000 in
theorem lPrints_X (b : Bool) (l : List (List Yl)) (hin : ∀ x ∈ l, TokN x) : XMeets Tryz.prog 3 [.sl b (l.map rowT)] (.p (.v (.bool (true))) (nlv _)) := by
  refine XMeets.of_X tabX_ok (avs := [.p (.sl false (l.map rowT)) (nl_rowT _).sl]) [(0, .p (.sl false (l.map rowT)) (nl_rowT _).sl)] (by kernel_rfl) Tryz.func3 rfl (by simp [PuL, Pu, pu_rowT]) (by simp [untagL, untag, untag_rowT, XV.den, XV.denL]) rfl rfl ?_
  intro B w0
  conv => whnf
  refine .ct ?_
  conv => whnf
  refine CallG.mk (wakes_X) rfl ?_
  conv => whnf
  refine XT.loop tabX_ok (Y := Nat) [2, 3, 4, 5, 6, 7, 8, 9, 10, 11, 16, 17, 18, 19, 20, 21, 22, 23, 24, 25, 26, 27, 28, 29, 30, 31, 32, 33, 34, 35, 36, 37, 38, 39, 40, 41, 42, 43, 44, 45, 46, 47, 48, 49, 50, 51, 52, 53, 54, 55, 56, 57, 58, 59, 60, 61, 62, 63, 64, 65, 66, 67, 68, 69, 70, 71, 72, 73, 74, 75, 76, 77, 78, 79, 80, 81, 82, 83, 84, 85, 86, 87, 88, 89, 90] (fun k => [(16, .p (.v (.int .i64 ((k : Int)))) (nlv _))]) (fun k => []) (fun k => k ≤ l.length ∧ k ≤ 8) (fun k => l.length - k) 0 ⟨Nat.zero_le _, by omega⟩ ?_ ?_
  · skip
    refine ⟨?_, ?_, ?_⟩
    · skip
      refine leEnv_app (by kernel_rfl) (by kernel_rfl) ?_
      repeat ((conv => whnf); first | exact True.intro | refine ⟨.rfl, ?_⟩ | refine ⟨.any, ?_⟩ | refine ⟨.nil, ?_⟩ | refine ⟨.int (by first | rfl | omega | (simp only [wrs]; omega)), ?_⟩)
    · skip
      repeat (first | exact LeVs.nil | ((conv => whnf); first | exact True.intro | exact .none | exact .row rfl | refine .cells ?_ | refine ⟨_, _, rfl, .rfl, ?_⟩ | refine ⟨_, _, rfl, .any, ?_⟩ | refine ⟨_, _, rfl, .nil, ?_⟩ | refine ⟨_, _, rfl, .int (by first | rfl | omega | (simp only [wrs]; omega)), ?_⟩ | refine ⟨?_, ?_⟩))
      done
    · skip
      exact LeFr.nil
  · skip
    rintro k ⟨hk, hk8⟩
    conv => whnf
    refine bS (fun hc1 => ?_) (fun hc1 => ?_)
    · skip
      try simp only [bls] at hc1
      conv => whnf
      refine IdxG.map (f := rowT) (l := l) k rfl (by first | omega | (simp only [List.length_map, List.length_take, List.length_nil] at *; omega)) ?_; intro y hy hky; have hti := tk_in (hin y (List.mem_of_getElem? hy))
      conv => whnf
      refine ⟨rfl, ?_⟩
      conv => whnf
      refine bS (fun hc2 => ?_) (fun hc2 => ?_)
      · skip
        try simp only [bls] at hc2
        conv => whnf
        refine FinG.mk none ?_ (by rintro _ ⟨⟩)
        simp only [outs, List.length_map, List.length_append, List.length_take, List.length_drop, List.length_cons, List.length_nil]
      · skip
        try simp only [bls] at hc2
        conv => whnf
        refine RegG.par 11 (by kernel_rfl) ?_
        conv => whnf
        refine CallG.mk (toks_X _ _) rfl ?_
        conv => whnf
        refine CallG.mk (toks_X _ _) rfl ?_
        conv => whnf
        refine IdxG.map (f := rowT) (l := l) 0 rfl (by first | omega | (simp only [List.length_map, List.length_take, List.length_nil] at *; omega)) ?_; intro y0 hy0 hky0
        conv => whnf
        refine ⟨rfl, ?_⟩
        conv => whnf
        refine CallG.mk (toks_X _ _) rfl ?_
        conv => whnf
        refine .ct ?_
        conv => whnf
        refine CallG.mk (check_X _ (tkS y) (by have := tk_len y; omega) hti) rfl ?_
        conv => whnf
        refine .ct ?_
        conv => whnf
        refine CallG.mk (print_X _ (tkS y) (by have := tk_len y; omega) hti) rfl ?_
        conv => whnf
        refine .ct ?_
        conv => whnf
        refine CallG.mk (same_X _ _ (tkS y0) (tkS y) (by have := tk_len y0; omega)) rfl ?_
        conv => whnf
        refine .ct ?_
        conv => whnf
        refine CallG.mk (same6_X _ _ (tkS y0) (tkS y) (by have := tk_len y0; omega)) rfl ?_
        conv => whnf
        refine bF (notF (BEq.rfl : ((_ : Bool) == _) = true)) ?_
        conv => whnf
        refine bF (notF (BEq.rfl : ((_ : Bool) == _) = true)) ?_
        conv => whnf
        refine bF (notF (BEq.rfl : ((_ : Bool) == _) = true)) ?_
        conv => whnf
        refine .ct ?_
        conv => whnf
        refine CallG.mk (equal6_X _ _ (tkS y) (tkS y) (by have := tk_len y; omega)) rfl ?_
        conv => whnf
        refine bF (notF (BEq.rfl : ((_ : Bool) == _) = true)) ?_
        conv => whnf
        refine bF (notF (BEq.rfl : ((_ : Bool) == _) = true)) ?_
        conv => whnf
        refine bF (by rw [eqlL_self]; rfl) ?_
        conv => whnf
        refine .ct ?_
        conv => whnf
        refine CallG.mk (right6_X _ (tkS y) (by have := tk_len y; omega) hti) rfl ?_
        conv => whnf
        refine bS (fun hc3 => ?_) (fun hc3 => ?_)
        · skip
          try simp only [bls] at hc3
          conv => whnf
          refine bF (by rw [(prtF hti (by assumption)).1]; rfl) ?_
          conv => whnf
          refine bF (by rw [(prtF hti (by assumption)).1]; rfl) ?_
          conv => whnf
          refine bF (by rw [(prtF hti (by assumption)).1]; rfl) ?_
          conv => whnf
          refine bF (by rw [(prtF hti (by assumption)).2.2]; rfl) ?_
          conv => whnf
          refine bF (by rw [(prtF hti (by assumption)).2.2]; rfl) ?_
          conv => whnf
          refine bF (by rw [(prtF hti (by assumption)).2.2]; rfl) ?_
          conv => whnf
          refine bF (by rw [(prtF hti (by assumption)).2.1]; simp [bsEq]) ?_
          conv => whnf
          refine ⟨(k + 1), ⟨(by first | omega | (simp only [List.length_map, List.length_take, List.length_nil] at *; omega)), by omega⟩, (by first | omega | (simp only [List.length_map, List.length_take, List.length_nil] at *; omega)), ?_⟩
          refine ⟨?_, ?_, ?_⟩
          · skip
            refine leEnv_app (by kernel_rfl) (by kernel_rfl) ?_
            repeat ((conv => whnf); first | exact True.intro | refine ⟨.rfl, ?_⟩ | refine ⟨.any, ?_⟩ | refine ⟨.nil, ?_⟩ | refine ⟨.int (by first | rfl | omega | (simp only [wrs]; omega)), ?_⟩)
          · skip
            repeat (first | exact LeVs.nil | ((conv => whnf); first | exact True.intro | exact .none | exact .row rfl | refine .cells ?_ | refine ⟨_, _, rfl, .rfl, ?_⟩ | refine ⟨_, _, rfl, .any, ?_⟩ | refine ⟨_, _, rfl, .nil, ?_⟩ | refine ⟨_, _, rfl, .int (by first | rfl | omega | (simp only [wrs]; omega)), ?_⟩ | refine ⟨?_, ?_⟩))
            done
          · skip
            exact LeFr.nil
        · skip
          try simp only [bls] at hc3
          conv => whnf
          refine .ct ?_
          conv => whnf
          refine CallG.mk (text6_X _ (tkS y) (rgt_len (by assumption)) hti (rgt_n (by assumption))) rfl ?_
          conv => whnf
          refine bS (fun hc4 => ?_) (fun hc4 => ?_)
          · skip
            try simp only [bls] at hc4
            conv => whnf
            refine bF (by rw [(prtL hti (by assumption) (by omega)).1]; rfl) ?_
            conv => whnf
            refine bF (by rw [(prtL hti (by assumption) (by omega)).1]; rfl) ?_
            conv => whnf
            refine bF (by rw [(prtL hti (by assumption) (by omega)).1]; rfl) ?_
            conv => whnf
            refine bF (by rw [(prtL hti (by assumption) (by omega)).2.2]; rfl) ?_
            conv => whnf
            refine bF (by rw [(prtL hti (by assumption) (by omega)).2.2]; rfl) ?_
            conv => whnf
            refine bF (by rw [(prtL hti (by assumption) (by omega)).2.2]; rfl) ?_
            conv => whnf
            refine bF (by rw [(prtL hti (by assumption) (by omega)).2.1]; simp [bsEq]) ?_
            conv => whnf
            refine ⟨(k + 1), ⟨(by first | omega | (simp only [List.length_map, List.length_take, List.length_nil] at *; omega)), by omega⟩, (by first | omega | (simp only [List.length_map, List.length_take, List.length_nil] at *; omega)), ?_⟩
            refine ⟨?_, ?_, ?_⟩
            · skip
              refine leEnv_app (by kernel_rfl) (by kernel_rfl) ?_
              repeat ((conv => whnf); first | exact True.intro | refine ⟨.rfl, ?_⟩ | refine ⟨.any, ?_⟩ | refine ⟨.nil, ?_⟩ | refine ⟨.int (by first | rfl | omega | (simp only [wrs]; omega)), ?_⟩)
            · skip
              repeat (first | exact LeVs.nil | ((conv => whnf); first | exact True.intro | exact .none | exact .row rfl | refine .cells ?_ | refine ⟨_, _, rfl, .rfl, ?_⟩ | refine ⟨_, _, rfl, .any, ?_⟩ | refine ⟨_, _, rfl, .nil, ?_⟩ | refine ⟨_, _, rfl, .int (by first | rfl | omega | (simp only [wrs]; omega)), ?_⟩ | refine ⟨?_, ?_⟩))
              done
            · skip
              exact LeFr.nil
          · skip
            try simp only [bls] at hc4
            conv => whnf
            refine bF (by rw [(prtO hti (by assumption) (by omega)).1]; rfl) ?_
            conv => whnf
            refine bF (by rw [(prtO hti (by assumption) (by omega)).1]; rfl) ?_
            conv => whnf
            refine bF (by rw [(prtO hti (by assumption) (by omega)).1]; rfl) ?_
            conv => whnf
            refine bF (by rw [(prtO hti (by assumption) (by omega)).2.2]; rfl) ?_
            conv => whnf
            refine bF (by rw [(prtO hti (by assumption) (by omega)).2.2]; rfl) ?_
            conv => whnf
            refine bF (by rw [(prtO hti (by assumption) (by omega)).2.2]; rfl) ?_
            conv => whnf
            refine bF (by rw [(prtO hti (by assumption) (by omega)).2.2]; rfl) ?_
            conv => whnf
            refine bF (by rw [(prtO hti (by assumption) (by omega)).2.1]; simp [bsEq]) ?_
            conv => whnf
            refine ⟨(k + 1), ⟨(by first | omega | (simp only [List.length_map, List.length_take, List.length_nil] at *; omega)), by omega⟩, (by first | omega | (simp only [List.length_map, List.length_take, List.length_nil] at *; omega)), ?_⟩
            refine ⟨?_, ?_, ?_⟩
            · skip
              refine leEnv_app (by kernel_rfl) (by kernel_rfl) ?_
              repeat ((conv => whnf); first | exact True.intro | refine ⟨.rfl, ?_⟩ | refine ⟨.any, ?_⟩ | refine ⟨.nil, ?_⟩ | refine ⟨.int (by first | rfl | omega | (simp only [wrs]; omega)), ?_⟩)
            · skip
              repeat (first | exact LeVs.nil | ((conv => whnf); first | exact True.intro | exact .none | exact .row rfl | refine .cells ?_ | refine ⟨_, _, rfl, .rfl, ?_⟩ | refine ⟨_, _, rfl, .any, ?_⟩ | refine ⟨_, _, rfl, .nil, ?_⟩ | refine ⟨_, _, rfl, .int (by first | rfl | omega | (simp only [wrs]; omega)), ?_⟩ | refine ⟨?_, ?_⟩))
              done
            · skip
              exact LeFr.nil
    · skip
      try simp only [bls] at hc1
      conv => whnf
      refine FinG.mk none ?_ (by rintro _ ⟨⟩)
      simp only [outs, List.length_map, List.length_append, List.length_take, List.length_drop, List.length_cons, List.length_nil]
end Go.Proofs.YtekpmlfcmnlmiaaGreatDoor
