/- Who hears whom, by the document: the walk. No condition. -/
import Derived.Test.YtmhmldpccccjbaaNW
import Derived.Test.YtmhmldpccccjbaaU24
namespace Go.Proofs.Ytmhmldpccccjbaa
open Go.RowKit
set_option linter.unusedVariables false
set_option linter.unusedSimpArgs false
set_option maxRecDepth 20000
set_option maxRecDepth 20000 in
theorem pair_X (a b : Int) : XMeets Try.prog 15 [.v (.int .i64 a), .v (.int .i64 b)] (.p (.v (.bool (pkB a b 0))) (nlv _)) := by
  refine XMeets.of_X tabX_ok (avs := [.p (.v (.int .i64 a)) (nlv _), .p (.v (.int .i64 b)) (nlv _)]) [(0, .p (.v (.int .i64 a)) (nlv _)), (1, .p (.v (.int .i64 b)) (nlv _))] (by kernel_rfl) Try.func15 rfl (by simp [PuL, Pu]) (rfl) rfl rfl ?_
  intro B w0
  conv => whnf
  cases hc1 : (decide (1 ≤ a))
  · skip
    try simp only [bls] at hc1
    conv => whnf
    refine FinG.mk none ?_ (by rintro _ ⟨⟩)
    simp only [outs, List.length_map, List.length_append, List.length_take, List.length_drop, List.length_cons, List.length_nil, slC, dfC, netX, net0, List.map_nil, mix_len, pkX, slX, sl0, delS]
    simp_all [pkB, nodeB]; omega
  · skip
    try simp only [bls] at hc1
    conv => whnf
    cases hc2 : (decide (a ≤ 8))
    · skip
      try simp only [bls] at hc2
      conv => whnf
      refine FinG.mk none ?_ (by rintro _ ⟨⟩)
      simp only [outs, List.length_map, List.length_append, List.length_take, List.length_drop, List.length_cons, List.length_nil, slC, dfC, netX, net0, List.map_nil, mix_len, pkX, slX, sl0, delS]
      simp_all [pkB, nodeB]; omega
    · skip
      try simp only [bls] at hc2
      conv => whnf
      cases hc3 : (decide (1 ≤ b))
      · skip
        try simp only [bls] at hc3
        conv => whnf
        refine FinG.mk none ?_ (by rintro _ ⟨⟩)
        simp only [outs, List.length_map, List.length_append, List.length_take, List.length_drop, List.length_cons, List.length_nil, slC, dfC, netX, net0, List.map_nil, mix_len, pkX, slX, sl0, delS]
        simp_all [pkB, nodeB]; omega
      · skip
        try simp only [bls] at hc3
        conv => whnf
        cases hc4 : (decide (b ≤ 8))
        · skip
          try simp only [bls] at hc4
          conv => whnf
          refine FinG.mk none ?_ (by rintro _ ⟨⟩)
          simp only [outs, List.length_map, List.length_append, List.length_take, List.length_drop, List.length_cons, List.length_nil, slC, dfC, netX, net0, List.map_nil, mix_len, pkX, slX, sl0, delS]
          simp_all [pkB, nodeB]; omega
        · skip
          try simp only [bls] at hc4
          conv => whnf
          refine FinG.mk none ?_ (by rintro _ ⟨⟩)
          simp only [outs, List.length_map, List.length_append, List.length_take, List.length_drop, List.length_cons, List.length_nil, slC, dfC, netX, net0, List.map_nil, mix_len, pkX, slX, sl0, delS]
          simp_all [pkB, nodeB]
set_option maxRecDepth 20000 in
theorem rpk_X (c : Bool) (f t : Int) (l : List Int) : XMeets Try.prog 43 [.agg [.v (.int .i64 f), .v (.int .i64 t), .sl c (l.map by1)]] (.p (.v (.bool (pkB f t l.length))) (nlv _)) := by
  refine XMeets.of_X tabX_ok (avs := [.ag [.p (.v (.int .i64 f)) (nlv _), .p (.v (.int .i64 t)) (nlv _), .p (.sl false (l.map by1)) (nl_by1 _).sl]]) [(0, .ag [.p (.v (.int .i64 f)) (nlv _), .p (.v (.int .i64 t)) (nlv _), .p (.sl false (l.map by1)) (nl_by1 _).sl])] (by kernel_rfl) Try.func43 rfl (by simp [PuL, Pu, netT, slC, dfC, pu_by1, pu_sl, pu_df]) (by simp only [untagL, untag, netT, untag_by1, untag_sl, untag_df]; rfl) rfl rfl ?_
  intro B w0
  conv => whnf
  refine .ct ?_
  conv => whnf
  refine CallG.mk (pair_X _ _) rfl ?_
  conv => whnf
  cases hc1 : (pkB f t 0)
  · skip
    try simp only [bls] at hc1
    conv => whnf
    refine FinG.mk none ?_ (by rintro _ ⟨⟩)
    simp only [outs, List.length_map, List.length_append, List.length_take, List.length_drop, List.length_cons, List.length_nil, slC, dfC, netX, net0, List.map_nil, mix_len, pkX, slX, sl0, delS]
    simp_all [pkB]
  · skip
    try simp only [bls] at hc1
    conv => whnf
    refine FinG.mk none ?_ (by rintro _ ⟨⟩)
    simp only [outs, List.length_map, List.length_append, List.length_take, List.length_drop, List.length_cons, List.length_nil, slC, dfC, netX, net0, List.map_nil, mix_len, pkX, slX, sl0, delS]
    simp_all [pkB]; omega
set_option maxRecDepth 20000 in
theorem deaf_X (b c e : Bool) (n : NetA) (f t : Int) (hd : n.d.length ≤ 100000) : XMeets Try.prog 16 [netT b c e n, .v (.int .i64 f), .v (.int .i64 t)] (.p (.v (.bool (decide ((f, t) ∈ n.d)))) (nlv _)) := by
  refine XMeets.of_X tabX_ok (avs := [.ag [.p (.sl false (n.s.map (slC false))) (nl_sl _ _).sl, .p (.v (.int .i64 n.l)) (nlv _), .p (.sl false (n.d.map dfC)) (nl_df _).sl], .p (.v (.int .i64 f)) (nlv _), .p (.v (.int .i64 t)) (nlv _)]) [(0, .ag [.p (.sl false (n.s.map (slC false))) (nl_sl _ _).sl, .p (.v (.int .i64 n.l)) (nlv _), .p (.sl false (n.d.map dfC)) (nl_df _).sl]), (1, .p (.v (.int .i64 f)) (nlv _)), (2, .p (.v (.int .i64 t)) (nlv _))] (by kernel_rfl) Try.func16 rfl (by simp [PuL, Pu, netT, slC, dfC, pu_by1, pu_sl, pu_df]) (by simp only [untagL, untag, netT, untag_by1, untag_sl, untag_df]; rfl) rfl rfl ?_
  intro B w0
  conv => whnf
  refine XT.loop tabX_ok (Y := Nat) [6, 8, 12, 13, 14, 15, 16, 17, 18, 19, 20, 21, 22, 23, 24, 25, 26] (fun k => [(12, .p (.v (.int .i64 ((k : Int)))) (nlv _))]) (fun k => []) (fun k => k ≤ n.d.length ∧ ∀ j, j < k → n.d[j]? ≠ some (f, t)) (fun k => n.d.length - k) 0 ⟨Nat.zero_le _, fun j hj => by omega⟩ ?_ ?_
  · skip
    refine ⟨?_, ?_, ?_⟩
    · skip
      repeat ((conv => whnf); first | exact True.intro | refine ⟨.rfl, ?_⟩ | refine ⟨.any, ?_⟩ | refine ⟨.nil, ?_⟩ | refine ⟨.int (by first | rfl | omega | (simp only [wrs]; omega)), ?_⟩)
    · skip
      repeat (first | exact LeVs.nil | ((conv => whnf); first | exact True.intro | exact .none | exact .row rfl | refine .cells ?_ | refine ⟨_, _, rfl, .rfl, ?_⟩ | refine ⟨_, _, rfl, .any, ?_⟩ | refine ⟨_, _, rfl, .nil, ?_⟩ | refine ⟨_, _, rfl, .int (by first | rfl | omega | (simp only [wrs]; omega)), ?_⟩ | refine ⟨?_, ?_⟩))
    · skip
      repeat (first | exact LeFr.nil | ((conv => whnf); first | exact True.intro | refine ⟨.rfl, ?_⟩ | refine ⟨_, _, rfl, rfl, ?_, ?_⟩))
  · skip
    rintro k ⟨hk, h1⟩
    conv => whnf
    cases hc1 : (decide ((↑k : Int) < (↑(List.map dfC n.d).length : Int)))
    · skip
      try simp only [bls] at hc1
      conv => whnf
      refine FinG.mk none ?_ (by rintro _ ⟨⟩)
      simp only [outs, List.length_map, List.length_append, List.length_take, List.length_drop, List.length_cons, List.length_nil, slC, dfC, netX, net0, List.map_nil, mix_len, pkX, slX, sl0, delS]
      rw [decide_eq_false (fun hm => by obtain ⟨j, hj, he⟩ := List.getElem_of_mem hm; exact h1 j (by omega) (by rw [List.getElem?_eq_getElem hj, he]))]
    · skip
      try simp only [bls] at hc1
      conv => whnf
      refine IdxG.map _ rfl (by first | omega | (simp only [List.length_map] at *; omega)) ?_; intro y hy hny
      conv => whnf
      refine ⟨rfl, ?_⟩
      conv => whnf
      cases hc2 : (decide (y.fst = f))
      · skip
        try simp only [bls] at hc2
        conv => whnf
        refine ⟨(k + 1), ⟨by omega, ixD_step (x := (f, t)) hy (by simp_all [eq_comm]; done) h1⟩, (by omega), ?_⟩
        refine ⟨?_, ?_, ?_⟩
        · skip
          repeat ((conv => whnf); first | exact True.intro | refine ⟨.rfl, ?_⟩ | refine ⟨.any, ?_⟩ | refine ⟨.nil, ?_⟩ | refine ⟨.int (by first | rfl | omega | (simp only [wrs]; omega)), ?_⟩)
        · skip
          repeat (first | exact LeVs.nil | ((conv => whnf); first | exact True.intro | exact .none | exact .row rfl | refine .cells ?_ | refine ⟨_, _, rfl, .rfl, ?_⟩ | refine ⟨_, _, rfl, .any, ?_⟩ | refine ⟨_, _, rfl, .nil, ?_⟩ | refine ⟨_, _, rfl, .int (by first | rfl | omega | (simp only [wrs]; omega)), ?_⟩ | refine ⟨?_, ?_⟩))
        · skip
          repeat (first | exact LeFr.nil | ((conv => whnf); first | exact True.intro | refine ⟨.rfl, ?_⟩ | refine ⟨_, _, rfl, rfl, ?_, ?_⟩))
      · skip
        try simp only [bls] at hc2
        conv => whnf
        cases hc3 : (decide (y.snd = t))
        · skip
          try simp only [bls] at hc3
          conv => whnf
          refine ⟨(k + 1), ⟨by omega, ixD_step (x := (f, t)) hy (by simp_all [eq_comm]; done) h1⟩, (by omega), ?_⟩
          refine ⟨?_, ?_, ?_⟩
          · skip
            repeat ((conv => whnf); first | exact True.intro | refine ⟨.rfl, ?_⟩ | refine ⟨.any, ?_⟩ | refine ⟨.nil, ?_⟩ | refine ⟨.int (by first | rfl | omega | (simp only [wrs]; omega)), ?_⟩)
          · skip
            repeat (first | exact LeVs.nil | ((conv => whnf); first | exact True.intro | exact .none | exact .row rfl | refine .cells ?_ | refine ⟨_, _, rfl, .rfl, ?_⟩ | refine ⟨_, _, rfl, .any, ?_⟩ | refine ⟨_, _, rfl, .nil, ?_⟩ | refine ⟨_, _, rfl, .int (by first | rfl | omega | (simp only [wrs]; omega)), ?_⟩ | refine ⟨?_, ?_⟩))
          · skip
            repeat (first | exact LeFr.nil | ((conv => whnf); first | exact True.intro | refine ⟨.rfl, ?_⟩ | refine ⟨_, _, rfl, rfl, ?_, ?_⟩))
        · skip
          try simp only [bls] at hc3
          conv => whnf
          refine FinG.mk none ?_ (by rintro _ ⟨⟩)
          simp only [outs, List.length_map, List.length_append, List.length_take, List.length_drop, List.length_cons, List.length_nil, slC, dfC, netX, net0, List.map_nil, mix_len, pkX, slX, sl0, delS]
          rw [decide_eq_true (show (f, t) ∈ n.d from (show y = (f, t) from Prod.ext (by assumption) (by assumption)) ▸ List.mem_of_getElem? hy)]
theorem right_no_l {n : NetA} (h : ¬ (0 ≤ n.l ∧ n.l < 80)) : rightB n = false := by
  cases hr : rightB n with
  | false => rfl
  | true => exact absurd (right_iff.1 hr).1 h
theorem right_no_s {n : NetA} {k : Nat} {y : Sl} (hy : n.s[k]? = some y) (h : ¬ okS n.s k y) : rightB n = false := by
  cases hr : rightB n with
  | false => rfl
  | true => exact absurd ((right_iff.1 hr).2.1 k y hy) h
theorem right_no_d {n : NetA} {k : Nat} {y : Int × Int} (hy : n.d[k]? = some y) (h : ¬ okD n.d k y) : rightB n = false := by
  cases hr : rightB n with
  | false => rfl
  | true => exact absurd ((right_iff.1 hr).2.2 k y hy) h
theorem lastA_p {s : List Sl} {k : Nat} {p : Sl} (hk : 0 < k) (hp : s[k - 1]? = some p) : lastA s k = p.a := by
  obtain ⟨j, rfl⟩ : ∃ j, k = j + 1 := ⟨k - 1, by omega⟩
  exact lastA_s (by simpa using hp)
theorem lastA_0 {s : List Sl} {k : Nat} (hk : ¬ 0 < k) : lastA s k = -1 := by
  obtain rfl : k = 0 := by omega
  rfl
theorem okS_step {s : List Sl} {k : Nat} {y : Sl} (hy : s[k]? = some y) (h1 : ∀ j x, j < k → s[j]? = some x → okS s j x) (h : okS s k y) : ∀ j x, j < k + 1 → s[j]? = some x → okS s j x := fun j x hj hx => by
  rcases Nat.lt_or_ge j k with h2 | h2
  · exact h1 j x h2 hx
  · obtain rfl : j = k := by omega
    rw [hy] at hx; injection hx with hx; subst hx; exact h
theorem okD_step {s : List (Int × Int)} {k : Nat} {y : Int × Int} (hy : s[k]? = some y) (h1 : ∀ j x, j < k → s[j]? = some x → okD s j x) (h : okD s k y) : ∀ j x, j < k + 1 → s[j]? = some x → okD s j x := fun j x hj hx => by
  rcases Nat.lt_or_ge j k with h2 | h2
  · exact h1 j x h2 hx
  · obtain rfl : j = k := by omega
    rw [hy] at hx; injection hx with hx; subst hx; exact h
theorem okD_p {s : List (Int × Int)} {k : Nat} {p z : Int × Int} (hp : s[k - 1]? = some p) (hz : pkB z.1 z.2 0 = true) (h : dk p < dk z) : okD s k z := ⟨hz, fun i q hi hq => by
  subst hi
  rw [show i + 1 - 1 = i by omega, hq] at hp
  injection hp with hp
  subst hp; exact h⟩
theorem okD_0 {s : List (Int × Int)} {k : Nat} {z : Int × Int} (hk : ¬ 0 < k) (hz : pkB z.1 z.2 0 = true) : okD s k z := ⟨hz, fun i q hi => by omega⟩
theorem okD_np {s : List (Int × Int)} {k : Nat} {p z : Int × Int} (hk : 0 < k) (hp : s[k - 1]? = some p) (h : ¬ dk p < dk z) : ¬ okD s k z := fun h2 => h (h2.2 (k - 1) p (by omega) hp)
theorem right_all {n : NetA} {k k2 : Nat} (h0 : 0 ≤ n.l ∧ n.l < 80) (hk : n.s.length ≤ k) (hk2 : n.d.length ≤ k2) (h1 : ∀ j x, j < k → n.s[j]? = some x → okS n.s j x) (h2 : ∀ j x, j < k2 → n.d[j]? = some x → okD n.d j x) : rightB n = true :=
  right_iff.2 ⟨h0, fun j x hx => h1 j x (by have := (List.getElem?_eq_some_iff.1 hx).1; omega) hx, fun j x hx => h2 j x (by have := (List.getElem?_eq_some_iff.1 hx).1; omega) hx⟩
set_option maxRecDepth 20000 in
theorem right_X (b c e : Bool) (n : NetA) (ho : n.Ok) : XMeets Try.prog 14 [netT b c e n] (.p (.v (.bool (rightB n))) (nlv _)) := by
  refine XMeets.of_X tabX_ok (avs := [.ag [.p (.sl false (n.s.map (slC false))) (nl_sl _ _).sl, .p (.v (.int .i64 n.l)) (nlv _), .p (.sl false (n.d.map dfC)) (nl_df _).sl]]) [(0, .ag [.p (.sl false (n.s.map (slC false))) (nl_sl _ _).sl, .p (.v (.int .i64 n.l)) (nlv _), .p (.sl false (n.d.map dfC)) (nl_df _).sl])] (by kernel_rfl) Try.func14 rfl (by simp [PuL, Pu, netT, slC, dfC, pu_by1, pu_sl, pu_df]) (by simp only [untagL, untag, netT, untag_by1, untag_sl, untag_df]; rfl) rfl rfl ?_
  intro B w0
  have hsn := ho.sn
  have hdn := ho.dn
  conv => whnf
  cases hc1 : (decide (n.l < 0))
  · skip
    try simp only [bls] at hc1
    conv => whnf
    cases hc2 : (decide (80 ≤ n.l))
    · skip
      try simp only [bls] at hc2
      conv => whnf
      refine XT.loop tabX_ok (Y := Nat) [2, 3, 4, 18, 19, 20, 21, 22, 23, 24, 25, 26, 27, 28, 29, 30, 31, 32, 33, 34, 35, 36, 37, 38, 39, 40, 41, 42, 43, 44, 45, 46, 47, 48, 49, 50, 51, 52, 53] (fun k => [(18, .p (.v (.int .i64 ((k : Int)))) (nlv _))]) (fun k => []) (fun k => k ≤ n.s.length ∧ ∀ j x, j < k → n.s[j]? = some x → okS n.s j x) (fun k => n.s.length - k) 0 ⟨Nat.zero_le _, fun j x hj => by omega⟩ ?_ ?_
      · skip
        refine ⟨?_, ?_, ?_⟩
        · skip
          repeat ((conv => whnf); first | exact True.intro | refine ⟨.rfl, ?_⟩ | refine ⟨.any, ?_⟩ | refine ⟨.nil, ?_⟩ | refine ⟨.int (by first | rfl | omega | (simp only [wrs]; omega)), ?_⟩)
        · skip
          repeat (first | exact LeVs.nil | ((conv => whnf); first | exact True.intro | exact .none | exact .row rfl | refine .cells ?_ | refine ⟨_, _, rfl, .rfl, ?_⟩ | refine ⟨_, _, rfl, .any, ?_⟩ | refine ⟨_, _, rfl, .nil, ?_⟩ | refine ⟨_, _, rfl, .int (by first | rfl | omega | (simp only [wrs]; omega)), ?_⟩ | refine ⟨?_, ?_⟩))
        · skip
          repeat (first | exact LeFr.nil | ((conv => whnf); first | exact True.intro | refine ⟨.rfl, ?_⟩ | refine ⟨_, _, rfl, rfl, ?_, ?_⟩))
      · skip
        rintro k ⟨hk, h1⟩
        conv => whnf
        cases hc3 : (decide ((↑k : Int) < (↑(List.map (slC false) n.s).length : Int)))
        · skip
          try simp only [bls] at hc3
          conv => whnf
          refine XT.loop tabX_ok (Y := Nat) [2, 5, 6, 57, 58, 59, 60, 61, 62, 63, 64, 65, 66, 67, 68, 69, 70, 71, 72, 73, 74, 75, 76, 77, 78, 79, 80, 81, 82, 83, 84, 85, 86, 87, 88, 89, 90, 91, 92, 93, 94, 95, 96, 97] (fun k2 => [(57, .p (.v (.int .i64 ((k2 : Int)))) (nlv _))]) (fun k2 => []) (fun k2 => k2 ≤ n.d.length ∧ ∀ j x, j < k2 → n.d[j]? = some x → okD n.d j x) (fun k2 => n.d.length - k2) 0 ⟨Nat.zero_le _, fun j x hj => by omega⟩ ?_ ?_
          · skip
            refine ⟨?_, ?_, ?_⟩
            · skip
              repeat ((conv => whnf); first | exact True.intro | refine ⟨.rfl, ?_⟩ | refine ⟨.any, ?_⟩ | refine ⟨.nil, ?_⟩ | refine ⟨.int (by first | rfl | omega | (simp only [wrs]; omega)), ?_⟩)
            · skip
              repeat (first | exact LeVs.nil | ((conv => whnf); first | exact True.intro | exact .none | exact .row rfl | refine .cells ?_ | refine ⟨_, _, rfl, .rfl, ?_⟩ | refine ⟨_, _, rfl, .any, ?_⟩ | refine ⟨_, _, rfl, .nil, ?_⟩ | refine ⟨_, _, rfl, .int (by first | rfl | omega | (simp only [wrs]; omega)), ?_⟩ | refine ⟨?_, ?_⟩))
            · skip
              repeat (first | exact LeFr.nil | ((conv => whnf); first | exact True.intro | refine ⟨.rfl, ?_⟩ | refine ⟨_, _, rfl, rfl, ?_, ?_⟩))
          · skip
            rintro k2 ⟨hk2, h2⟩
            conv => whnf
            cases hc4 : (decide ((↑k2 : Int) < (↑(List.map dfC n.d).length : Int)))
            · skip
              try simp only [bls] at hc4
              conv => whnf
              refine FinG.mk none ?_ (by rintro _ ⟨⟩)
              simp only [outs, List.length_map, List.length_append, List.length_take, List.length_drop, List.length_cons, List.length_nil, slC, dfC, netX, net0, List.map_nil, mix_len, pkX, slX, sl0, delS]
              rw [right_all (by omega) (by omega) (by omega) h1 h2]
            · skip
              try simp only [bls] at hc4
              conv => whnf
              refine IdxG.map k2 rfl (by first | omega | (simp only [List.length_map] at *; omega)) ?_; intro z hz hnz
              conv => whnf
              refine ⟨rfl, ?_⟩
              conv => whnf
              refine RegG.par 35 (by kernel_rfl) ?_
              conv => whnf
              refine CallG.mk (pair_X _ _) rfl ?_
              conv => whnf
              cases hc5 : (pkB z.fst z.snd 0)
              · skip
                try simp only [bls] at hc5
                conv => whnf
                refine FinG.mk none ?_ (by rintro _ ⟨⟩)
                simp only [outs, List.length_map, List.length_append, List.length_take, List.length_drop, List.length_cons, List.length_nil, slC, dfC, netX, net0, List.map_nil, mix_len, pkX, slX, sl0, delS]
                rw [right_no_d hz (fun h => by have h8 := h.1; simp_all; done)]
              · skip
                try simp only [bls] at hc5
                conv => whnf
                cases hc6 : (decide (0 < (↑k2 : Int)))
                · skip
                  try simp only [bls] at hc6
                  conv => whnf
                  refine ⟨(k2 + 1), ⟨by omega, okD_step hz h2 (okD_0 (by omega) (by assumption))⟩, (by omega), ?_⟩
                  refine ⟨?_, ?_, ?_⟩
                  · skip
                    repeat ((conv => whnf); first | exact True.intro | refine ⟨.rfl, ?_⟩ | refine ⟨.any, ?_⟩ | refine ⟨.nil, ?_⟩ | refine ⟨.int (by first | rfl | omega | (simp only [wrs]; omega)), ?_⟩)
                  · skip
                    repeat (first | exact LeVs.nil | ((conv => whnf); first | exact True.intro | exact .none | exact .row rfl | refine .cells ?_ | refine ⟨_, _, rfl, .rfl, ?_⟩ | refine ⟨_, _, rfl, .any, ?_⟩ | refine ⟨_, _, rfl, .nil, ?_⟩ | refine ⟨_, _, rfl, .int (by first | rfl | omega | (simp only [wrs]; omega)), ?_⟩ | refine ⟨?_, ?_⟩))
                  · skip
                    repeat (first | exact LeFr.nil | ((conv => whnf); first | exact True.intro | refine ⟨.rfl, ?_⟩ | refine ⟨_, _, rfl, rfl, ?_, ?_⟩))
                · skip
                  try simp only [bls] at hc6
                  conv => whnf
                  rw [show IntKind.i64.wrap ((↑k2 : Int) - 1) = ((↑k2 : Int) - 1) from wz.1 _ (by omega) (by omega)]
                  refine IdxG.map (k2 - 1) (by omega) (by omega) ?_; intro p hp hnp; have hzk := pkB_iff.1 (show pkB z.1 z.2 0 = true by assumption); have hpk := pkB_iff.1 (h2 (k2 - 1) p (by omega) hp).1; have hz1 := hzk.1; have hz2 := hzk.2.1; have hp1 := hpk.1; have hp2 := hpk.2.1
                  conv => whnf
                  refine ⟨rfl, ?_⟩
                  conv => whnf
                  rw [show IntKind.i64.wrap ((↑k2 : Int) - 1) = ((↑k2 : Int) - 1) from wz.1 _ (by omega) (by omega)]
                  refine IdxG.mk (show (n.d.map dfC)[k2 - 1]? = some (dfC p) from by rw [List.getElem?_map, hp]; rfl) (by omega) ?_
                  conv => whnf
                  refine ⟨rfl, ?_⟩
                  conv => whnf
                  cases hc7 : (decide (IntKind.i64.wrap (IntKind.i64.wrap (10 * z.fst) + z.snd) ≤ IntKind.i64.wrap (IntKind.i64.wrap (10 * p.fst) + p.snd)))
                  · skip
                    try simp only [bls] at hc7
                    try simp (disch := omega) only [wz, Int.reduceAdd, Int.reduceSub, Int.reduceMul, Int.reduceNeg, Int.zero_add, Int.add_zero, Int.sub_zero, Int.sub_self] at hc7
                    conv => whnf
                    refine ⟨(k2 + 1), ⟨by omega, okD_step hz h2 (okD_p hp (by assumption) (by unfold dk; omega))⟩, (by omega), ?_⟩
                    refine ⟨?_, ?_, ?_⟩
                    · skip
                      repeat ((conv => whnf); first | exact True.intro | refine ⟨.rfl, ?_⟩ | refine ⟨.any, ?_⟩ | refine ⟨.nil, ?_⟩ | refine ⟨.int (by first | rfl | omega | (simp only [wrs]; omega)), ?_⟩)
                    · skip
                      repeat (first | exact LeVs.nil | ((conv => whnf); first | exact True.intro | exact .none | exact .row rfl | refine .cells ?_ | refine ⟨_, _, rfl, .rfl, ?_⟩ | refine ⟨_, _, rfl, .any, ?_⟩ | refine ⟨_, _, rfl, .nil, ?_⟩ | refine ⟨_, _, rfl, .int (by first | rfl | omega | (simp only [wrs]; omega)), ?_⟩ | refine ⟨?_, ?_⟩))
                    · skip
                      repeat (first | exact LeFr.nil | ((conv => whnf); first | exact True.intro | refine ⟨.rfl, ?_⟩ | refine ⟨_, _, rfl, rfl, ?_, ?_⟩))
                  · skip
                    try simp only [bls] at hc7
                    try simp (disch := omega) only [wz, Int.reduceAdd, Int.reduceSub, Int.reduceMul, Int.reduceNeg, Int.zero_add, Int.add_zero, Int.sub_zero, Int.sub_self] at hc7
                    conv => whnf
                    refine FinG.mk none ?_ (by rintro _ ⟨⟩)
                    simp only [outs, List.length_map, List.length_append, List.length_take, List.length_drop, List.length_cons, List.length_nil, slC, dfC, netX, net0, List.map_nil, mix_len, pkX, slX, sl0, delS]
                    rw [right_no_d hz (okD_np (by omega) hp (by unfold dk; omega))]
        · skip
          try simp only [bls] at hc3
          conv => whnf
          refine IdxG.map k rfl (by first | omega | (simp only [List.length_map] at *; omega)) ?_; intro y hy hny; have hyo := (ho.s y (List.mem_of_getElem? hy)).a; have hyo0 := hyo.1; have hyo1 := hyo.2
          conv => whnf
          refine ⟨rfl, ?_⟩
          conv => whnf
          refine RegG.par 30 (by kernel_rfl) ?_
          conv => whnf
          cases hc8 : (decide (y.a < 0))
          · skip
            try simp only [bls] at hc8
            conv => whnf
            cases hc9 : (decide (80 ≤ y.a))
            · skip
              try simp only [bls] at hc9
              conv => whnf
              cases hc10 : (decide (0 < (↑k : Int)))
              · skip
                try simp only [bls] at hc10
                conv => whnf
                refine CallG.mk (rpk_X _ _ _ _) rfl ?_
                conv => whnf
                cases hc11 : (pkB y.f y.t y.b.length)
                · skip
                  try simp only [bls] at hc11
                  conv => whnf
                  refine FinG.mk none ?_ (by rintro _ ⟨⟩)
                  simp only [outs, List.length_map, List.length_append, List.length_take, List.length_drop, List.length_cons, List.length_nil, slC, dfC, netX, net0, List.map_nil, mix_len, pkX, slX, sl0, delS]
                  rw [right_no_s hy (fun h => by have h8 := h.2.2.2; simp_all; done)]
                · skip
                  try simp only [bls] at hc11
                  conv => whnf
                  refine ⟨(k + 1), ⟨by omega, okS_step hy h1 ⟨by omega, by rw [lastA_0 (by omega)]; omega, by omega, by simp_all; done⟩⟩, (by omega), ?_⟩
                  refine ⟨?_, ?_, ?_⟩
                  · skip
                    repeat ((conv => whnf); first | exact True.intro | refine ⟨.rfl, ?_⟩ | refine ⟨.any, ?_⟩ | refine ⟨.nil, ?_⟩ | refine ⟨.int (by first | rfl | omega | (simp only [wrs]; omega)), ?_⟩)
                  · skip
                    repeat (first | exact LeVs.nil | ((conv => whnf); first | exact True.intro | exact .none | exact .row rfl | refine .cells ?_ | refine ⟨_, _, rfl, .rfl, ?_⟩ | refine ⟨_, _, rfl, .any, ?_⟩ | refine ⟨_, _, rfl, .nil, ?_⟩ | refine ⟨_, _, rfl, .int (by first | rfl | omega | (simp only [wrs]; omega)), ?_⟩ | refine ⟨?_, ?_⟩))
                  · skip
                    repeat (first | exact LeFr.nil | ((conv => whnf); first | exact True.intro | refine ⟨.rfl, ?_⟩ | refine ⟨_, _, rfl, rfl, ?_, ?_⟩))
              · skip
                try simp only [bls] at hc10
                conv => whnf
                rw [show IntKind.i64.wrap ((↑k : Int) - 1) = ((↑k : Int) - 1) from wz.1 _ (by omega) (by omega)]
                refine IdxG.map (k - 1) (by omega) (by omega) ?_; intro p hp hnp; have hpo := (ho.s p (List.mem_of_getElem? hp)).a; have hpo0 := hpo.1; have hpo1 := hpo.2
                conv => whnf
                refine ⟨rfl, ?_⟩
                conv => whnf
                cases hc12 : (decide (y.a ≤ p.a))
                · skip
                  try simp only [bls] at hc12
                  conv => whnf
                  refine CallG.mk (rpk_X _ _ _ _) rfl ?_
                  conv => whnf
                  cases hc13 : (pkB y.f y.t y.b.length)
                  · skip
                    try simp only [bls] at hc13
                    conv => whnf
                    refine FinG.mk none ?_ (by rintro _ ⟨⟩)
                    simp only [outs, List.length_map, List.length_append, List.length_take, List.length_drop, List.length_cons, List.length_nil, slC, dfC, netX, net0, List.map_nil, mix_len, pkX, slX, sl0, delS]
                    rw [right_no_s hy (fun h => by have h8 := h.2.2.2; simp_all; done)]
                  · skip
                    try simp only [bls] at hc13
                    conv => whnf
                    refine ⟨(k + 1), ⟨by omega, okS_step hy h1 ⟨by omega, by rw [lastA_p (by omega) hp]; omega, by omega, by simp_all; done⟩⟩, (by omega), ?_⟩
                    refine ⟨?_, ?_, ?_⟩
                    · skip
                      repeat ((conv => whnf); first | exact True.intro | refine ⟨.rfl, ?_⟩ | refine ⟨.any, ?_⟩ | refine ⟨.nil, ?_⟩ | refine ⟨.int (by first | rfl | omega | (simp only [wrs]; omega)), ?_⟩)
                    · skip
                      repeat (first | exact LeVs.nil | ((conv => whnf); first | exact True.intro | exact .none | exact .row rfl | refine .cells ?_ | refine ⟨_, _, rfl, .rfl, ?_⟩ | refine ⟨_, _, rfl, .any, ?_⟩ | refine ⟨_, _, rfl, .nil, ?_⟩ | refine ⟨_, _, rfl, .int (by first | rfl | omega | (simp only [wrs]; omega)), ?_⟩ | refine ⟨?_, ?_⟩))
                    · skip
                      repeat (first | exact LeFr.nil | ((conv => whnf); first | exact True.intro | refine ⟨.rfl, ?_⟩ | refine ⟨_, _, rfl, rfl, ?_, ?_⟩))
                · skip
                  try simp only [bls] at hc12
                  conv => whnf
                  refine FinG.mk none ?_ (by rintro _ ⟨⟩)
                  simp only [outs, List.length_map, List.length_append, List.length_take, List.length_drop, List.length_cons, List.length_nil, slC, dfC, netX, net0, List.map_nil, mix_len, pkX, slX, sl0, delS]
                  rw [right_no_s hy (fun h => by have h8 := h.2.1; rw [lastA_p (by omega) hp] at h8; omega)]
            · skip
              try simp only [bls] at hc9
              conv => whnf
              refine FinG.mk none ?_ (by rintro _ ⟨⟩)
              simp only [outs, List.length_map, List.length_append, List.length_take, List.length_drop, List.length_cons, List.length_nil, slC, dfC, netX, net0, List.map_nil, mix_len, pkX, slX, sl0, delS]
              rw [right_no_s hy (fun h => by have h8 := h.1; have h9 := h.2.2.1; omega)]
          · skip
            try simp only [bls] at hc8
            conv => whnf
            refine FinG.mk none ?_ (by rintro _ ⟨⟩)
            simp only [outs, List.length_map, List.length_append, List.length_take, List.length_drop, List.length_cons, List.length_nil, slC, dfC, netX, net0, List.map_nil, mix_len, pkX, slX, sl0, delS]
            rw [right_no_s hy (fun h => by have h8 := h.1; have h9 := h.2.2.1; omega)]
    · skip
      try simp only [bls] at hc2
      conv => whnf
      refine FinG.mk none ?_ (by rintro _ ⟨⟩)
      simp only [outs, List.length_map, List.length_append, List.length_take, List.length_drop, List.length_cons, List.length_nil, slC, dfC, netX, net0, List.map_nil, mix_len, pkX, slX, sl0, delS]
      rw [right_no_l (by omega)]
  · skip
    try simp only [bls] at hc1
    conv => whnf
    refine FinG.mk none ?_ (by rintro _ ⟨⟩)
    simp only [outs, List.length_map, List.length_append, List.length_take, List.length_drop, List.length_cons, List.length_nil, slC, dfC, netX, net0, List.map_nil, mix_len, pkX, slX, sl0, delS]
    rw [right_no_l (by omega)]
set_option maxRecDepth 20000 in
theorem same6_X (c c2 c3 e e2 e3 : Bool) (n m : NetA) (hn : n.Sz) (hm : m.Sz) : XMeets Try.prog 18 [netT c c2 c3 n, netT e e2 e3 m] (.p (.v (.bool (decide (n = m)))) (nlv _)) := by
  refine XMeets.of_X tabX_ok (avs := [.ag [.p (.sl false (n.s.map (slC false))) (nl_sl _ _).sl, .p (.v (.int .i64 n.l)) (nlv _), .p (.sl false (n.d.map dfC)) (nl_df _).sl], .ag [.p (.sl false (m.s.map (slC false))) (nl_sl _ _).sl, .p (.v (.int .i64 m.l)) (nlv _), .p (.sl false (m.d.map dfC)) (nl_df _).sl]]) [(0, .ag [.p (.sl false (n.s.map (slC false))) (nl_sl _ _).sl, .p (.v (.int .i64 n.l)) (nlv _), .p (.sl false (n.d.map dfC)) (nl_df _).sl]), (1, .ag [.p (.sl false (m.s.map (slC false))) (nl_sl _ _).sl, .p (.v (.int .i64 m.l)) (nlv _), .p (.sl false (m.d.map dfC)) (nl_df _).sl])] (by kernel_rfl) Try.func18 rfl (by simp [PuL, Pu, netT, slC, dfC, pu_by1, pu_sl, pu_df]) (by simp only [untagL, untag, netT, untag_by1, untag_sl, untag_df]; rfl) rfl rfl ?_
  intro B w0
  have hn1 := hn.s
  have hn2 := hn.d
  have hn3 := hn.b
  have hm1 := hm.s
  have hm2 := hm.d
  have hm3 := hm.b
  conv => whnf
  cases hc1 : (decide (n.l = m.l))
  · skip
    try simp only [bls] at hc1
    conv => whnf
    refine FinG.mk none ?_ (by rintro _ ⟨⟩)
    simp only [outs, List.length_map, List.length_append, List.length_take, List.length_drop, List.length_cons, List.length_nil, slC, dfC, netX, net0, List.map_nil, mix_len, pkX, slX, sl0, delS]
    rw [decide_eq_false (fun e => by have h8 := congrArg NetA.l e; omega)]
  · skip
    try simp only [bls] at hc1
    conv => whnf
    cases hc2 : (decide ((↑(List.map (slC false) n.s).length : Int) = (↑(List.map (slC false) m.s).length : Int)))
    · skip
      try simp only [bls] at hc2
      conv => whnf
      refine FinG.mk none ?_ (by rintro _ ⟨⟩)
      simp only [outs, List.length_map, List.length_append, List.length_take, List.length_drop, List.length_cons, List.length_nil, slC, dfC, netX, net0, List.map_nil, mix_len, pkX, slX, sl0, delS]
      rw [decide_eq_false (fun e => ne_len (by omega) (congrArg NetA.s e))]
    · skip
      try simp only [bls] at hc2
      conv => whnf
      cases hc3 : (decide ((↑(List.map dfC n.d).length : Int) = (↑(List.map dfC m.d).length : Int)))
      · skip
        try simp only [bls] at hc3
        conv => whnf
        refine FinG.mk none ?_ (by rintro _ ⟨⟩)
        simp only [outs, List.length_map, List.length_append, List.length_take, List.length_drop, List.length_cons, List.length_nil, slC, dfC, netX, net0, List.map_nil, mix_len, pkX, slX, sl0, delS]
        rw [decide_eq_false (fun e => ne_len (by omega) (congrArg NetA.d e))]
      · skip
        try simp only [bls] at hc3
        conv => whnf
        refine XT.loop tabX_ok (Y := Nat) [4, 5, 33, 34, 35, 36, 37, 38, 39, 40, 41, 42, 43, 44, 45, 46, 47, 48] (fun k => [(33, .p (.v (.int .i64 ((k : Int)))) (nlv _))]) (fun k => []) (fun k => k ≤ n.s.length ∧ ∀ j, j < k → n.s[j]? = m.s[j]?) (fun k => n.s.length - k) 0 ⟨Nat.zero_le _, fun j hj => by omega⟩ ?_ ?_
        · skip
          refine ⟨?_, ?_, ?_⟩
          · skip
            repeat ((conv => whnf); first | exact True.intro | refine ⟨.rfl, ?_⟩ | refine ⟨.any, ?_⟩ | refine ⟨.nil, ?_⟩ | refine ⟨.int (by first | rfl | omega | (simp only [wrs]; omega)), ?_⟩)
          · skip
            repeat (first | exact LeVs.nil | ((conv => whnf); first | exact True.intro | exact .none | exact .row rfl | refine .cells ?_ | refine ⟨_, _, rfl, .rfl, ?_⟩ | refine ⟨_, _, rfl, .any, ?_⟩ | refine ⟨_, _, rfl, .nil, ?_⟩ | refine ⟨_, _, rfl, .int (by first | rfl | omega | (simp only [wrs]; omega)), ?_⟩ | refine ⟨?_, ?_⟩))
          · skip
            repeat (first | exact LeFr.nil | ((conv => whnf); first | exact True.intro | refine ⟨.rfl, ?_⟩ | refine ⟨_, _, rfl, rfl, ?_, ?_⟩))
        · skip
          rintro k ⟨hk, h1⟩
          conv => whnf
          cases hc4 : (decide ((↑k : Int) < (↑(List.map (slC false) n.s).length : Int)))
          · skip
            try simp only [bls] at hc4
            conv => whnf
            refine XT.loop tabX_ok (Y := Nat) [4, 6, 52, 53, 54, 55, 56, 57, 58, 59, 60, 61, 62, 63, 64, 65, 66] (fun k2 => [(52, .p (.v (.int .i64 ((k2 : Int)))) (nlv _))]) (fun k2 => []) (fun k2 => k2 ≤ n.d.length ∧ ∀ j, j < k2 → n.d[j]? = m.d[j]?) (fun k2 => n.d.length - k2) 0 ⟨Nat.zero_le _, fun j hj => by omega⟩ ?_ ?_
            · skip
              refine ⟨?_, ?_, ?_⟩
              · skip
                repeat ((conv => whnf); first | exact True.intro | refine ⟨.rfl, ?_⟩ | refine ⟨.any, ?_⟩ | refine ⟨.nil, ?_⟩ | refine ⟨.int (by first | rfl | omega | (simp only [wrs]; omega)), ?_⟩)
              · skip
                repeat (first | exact LeVs.nil | ((conv => whnf); first | exact True.intro | exact .none | exact .row rfl | refine .cells ?_ | refine ⟨_, _, rfl, .rfl, ?_⟩ | refine ⟨_, _, rfl, .any, ?_⟩ | refine ⟨_, _, rfl, .nil, ?_⟩ | refine ⟨_, _, rfl, .int (by first | rfl | omega | (simp only [wrs]; omega)), ?_⟩ | refine ⟨?_, ?_⟩))
              · skip
                repeat (first | exact LeFr.nil | ((conv => whnf); first | exact True.intro | refine ⟨.rfl, ?_⟩ | refine ⟨_, _, rfl, rfl, ?_, ?_⟩))
            · skip
              rintro k2 ⟨hk2, h2⟩
              conv => whnf
              cases hc5 : (decide ((↑k2 : Int) < (↑(List.map dfC n.d).length : Int)))
              · skip
                try simp only [bls] at hc5
                conv => whnf
                refine FinG.mk none ?_ (by rintro _ ⟨⟩)
                simp only [outs, List.length_map, List.length_append, List.length_take, List.length_drop, List.length_cons, List.length_nil, slC, dfC, netX, net0, List.map_nil, mix_len, pkX, slX, sl0, delS]
                rw [decide_eq_true (net_eq.2 ⟨by omega, eq_of_at (by omega) (by omega) h2, eq_of_at (by omega) (by omega) h1⟩)]
              · skip
                try simp only [bls] at hc5
                conv => whnf
                refine RegG.par 11 (by kernel_rfl) ?_
                conv => whnf
                refine IdxG.map (l := n.d) _ rfl (by first | omega | (simp only [List.length_map] at *; omega)) ?_; intro u hu hnu
                conv => whnf
                refine ⟨rfl, ?_⟩
                conv => whnf
                refine IdxG.map (l := m.d) _ rfl (by first | omega | (simp only [List.length_map] at *; omega)) ?_; intro v hv hnv
                conv => whnf
                refine ⟨rfl, ?_⟩
                conv => whnf
                refine BinG.mk rfl rfl (neDf_run _ _ _ _ _ _) ?_
                conv => whnf
                cases hc6 : ((decide (u.fst = v.fst) && decide (u.snd = v.snd)))
                · skip
                  try simp only [bls] at hc6
                  conv => whnf
                  refine FinG.mk none ?_ (by rintro _ ⟨⟩)
                  simp only [outs, List.length_map, List.length_append, List.length_take, List.length_drop, List.length_cons, List.length_nil, slC, dfC, netX, net0, List.map_nil, mix_len, pkX, slX, sl0, delS]
                  rw [decide_eq_false (fun e => ne_at hu hv (pair_ne (by simp_all; done)) (congrArg NetA.d e))]
                · skip
                  try simp only [bls] at hc6
                  conv => whnf
                  refine ⟨(k2 + 1), ⟨by omega, at_step hu hv (pair_eq (by simp_all; done)) h2⟩, (by omega), ?_⟩
                  refine ⟨?_, ?_, ?_⟩
                  · skip
                    repeat ((conv => whnf); first | exact True.intro | refine ⟨.rfl, ?_⟩ | refine ⟨.any, ?_⟩ | refine ⟨.nil, ?_⟩ | refine ⟨.int (by first | rfl | omega | (simp only [wrs]; omega)), ?_⟩)
                  · skip
                    repeat (first | exact LeVs.nil | ((conv => whnf); first | exact True.intro | exact .none | exact .row rfl | refine .cells ?_ | refine ⟨_, _, rfl, .rfl, ?_⟩ | refine ⟨_, _, rfl, .any, ?_⟩ | refine ⟨_, _, rfl, .nil, ?_⟩ | refine ⟨_, _, rfl, .int (by first | rfl | omega | (simp only [wrs]; omega)), ?_⟩ | refine ⟨?_, ?_⟩))
                  · skip
                    repeat (first | exact LeFr.nil | ((conv => whnf); first | exact True.intro | refine ⟨.rfl, ?_⟩ | refine ⟨_, _, rfl, rfl, ?_, ?_⟩))
          · skip
            try simp only [bls] at hc4
            conv => whnf
            refine RegG.par 12 (by kernel_rfl) ?_
            conv => whnf
            refine IdxG.map (l := n.s) _ rfl (by first | omega | (simp only [List.length_map] at *; omega)) ?_; intro x hx hnx; have hb_ := hn3 x (List.mem_of_getElem? hx)
            conv => whnf
            refine ⟨rfl, ?_⟩
            conv => whnf
            refine IdxG.map (l := m.s) _ rfl (by first | omega | (simp only [List.length_map] at *; omega)) ?_; intro y hy hny; have hb_2 := hm3 y (List.mem_of_getElem? hy)
            conv => whnf
            refine ⟨rfl, ?_⟩
            conv => whnf
            refine CallG.mk (sameSlot_X _ _ _ _ (by first | assumption | omega) (by first | assumption | omega)) rfl ?_
            conv => whnf
            cases hc7 : (decide (x = y))
            · skip
              try simp only [bls] at hc7
              conv => whnf
              refine FinG.mk none ?_ (by rintro _ ⟨⟩)
              simp only [outs, List.length_map, List.length_append, List.length_take, List.length_drop, List.length_cons, List.length_nil, slC, dfC, netX, net0, List.map_nil, mix_len, pkX, slX, sl0, delS]
              rw [decide_eq_false (fun e => ne_at hx hy (by assumption) (congrArg NetA.s e))]
            · skip
              try simp only [bls] at hc7
              conv => whnf
              refine ⟨(k + 1), ⟨by omega, at_step hx hy (by assumption) h1⟩, (by omega), ?_⟩
              refine ⟨?_, ?_, ?_⟩
              · skip
                repeat ((conv => whnf); first | exact True.intro | refine ⟨.rfl, ?_⟩ | refine ⟨.any, ?_⟩ | refine ⟨.nil, ?_⟩ | refine ⟨.int (by first | rfl | omega | (simp only [wrs]; omega)), ?_⟩)
              · skip
                repeat (first | exact LeVs.nil | ((conv => whnf); first | exact True.intro | exact .none | exact .row rfl | refine .cells ?_ | refine ⟨_, _, rfl, .rfl, ?_⟩ | refine ⟨_, _, rfl, .any, ?_⟩ | refine ⟨_, _, rfl, .nil, ?_⟩ | refine ⟨_, _, rfl, .int (by first | rfl | omega | (simp only [wrs]; omega)), ?_⟩ | refine ⟨?_, ?_⟩))
              · skip
                repeat (first | exact LeFr.nil | ((conv => whnf); first | exact True.intro | refine ⟨.rfl, ?_⟩ | refine ⟨_, _, rfl, rfl, ?_, ?_⟩))
end Go.Proofs.Ytmhmldpccccjbaa
