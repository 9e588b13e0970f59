/- What is said, and by whom, as it comes in. No condition. -/
import Derived.Test.YtmhmldpccccjbaaN6
import Derived.Test.YtmhmldpccccjbaaNW
import Derived.Test.YtmhmldpccccjbaaNZ
namespace Go.Proofs.Ytmhmldpccccjbaa
open Go.RowKit
set_option linter.unusedVariables false
set_option linter.unusedSimpArgs false
set_option maxRecDepth 20000
set_option maxRecDepth 20000 in
theorem full_X (b c e : Bool) (n : NetA) : XMeets Try.prog 35 [netT b c e n] (.p (.v (.bool (decide (n.s.length = 80)))) (nlv _)) := by
  refine XMeets.of_X tabX_ok (avs := [.ag [.p (.sl false (n.s.map (slC false))) (nl_sl _ _).sl, .p (.v (.int .i64 n.l)) (nlv _), .p (.sl false (n.d.map dfC)) (nl_df _).sl]]) [(0, .ag [.p (.sl false (n.s.map (slC false))) (nl_sl _ _).sl, .p (.v (.int .i64 n.l)) (nlv _), .p (.sl false (n.d.map dfC)) (nl_df _).sl])] (by kernel_rfl) Try.func35 rfl (by simp [PuL, Pu, netT, slC, dfC, sdC, pu_by1, pu_sl, pu_df, pu_sd]) (by simp only [untagL, untag, netT, untag_by1, untag_sl, untag_df, untag_sd]; rfl) rfl rfl ?_
  intro B w0
  conv => whnf
  refine FinG.mk none ?_ (by rintro _ ⟨⟩)
  simp only [outs, List.length_map, List.length_append, List.length_take, List.length_drop, List.length_cons, List.length_nil, slC, dfC, netX, net0, List.map_nil, mix_len, pkX, slX, sl0, delS]
  congr 1
  rw [decide_eq_decide]
  omega
end Go.Proofs.Ytmhmldpccccjbaa

namespace Go.Proofs.Ytmhmldpccccjbaa
open Go.RowKit
set_option linter.unusedVariables false
set_option linter.unusedSimpArgs false
set_option maxRecDepth 20000
def saidM (m : Msg) : Msg := (m.1, m.2.take 70001)
def saidL (ms : List Msg) : List Msg := (ms.take 90).map saidM
def saidR (s : List Msg) (k : Nat) : List Msg := (s.take (min k 90)).map saidM
theorem saidR_s {s : List Msg} {k : Nat} {y : Msg} (hy : s[k]? = some y) (hk : k < 90) : saidR s (k + 1) = saidR s k ++ [saidM y] := by
  obtain ⟨hl, rfl⟩ := List.getElem?_eq_some_iff.1 hy
  unfold saidR
  rw [Nat.min_eq_left (by omega), Nat.min_eq_left (by omega), List.take_succ_eq_append_getElem hl, List.map_append]
  rfl
theorem saidR_n {s : List Msg} {k : Nat} (hk : 90 ≤ k) : saidR s (k + 1) = saidR s k := by
  unfold saidR
  rw [Nat.min_eq_right (by omega), Nat.min_eq_right (by omega)]
theorem saidR_len (s : List Msg) (k : Nat) : (saidR s k).length ≤ 90 := by simp [saidR]; omega
theorem saidR_e {s : List Msg} {k : Nat} (hk : s.length ≤ k) : saidR s k = saidL s := by
  unfold saidR saidL
  rcases Nat.lt_or_ge k 90 with h | h
  · rw [Nat.min_eq_left (by omega), List.take_of_length_le hk, List.take_of_length_le (by omega)]
  · rw [Nat.min_eq_right (by omega)]
theorem said_len (ms : List Msg) : (saidL ms).length ≤ 90 := by simp [saidL]; omega
theorem said_b (ms : List Msg) : ∀ m ∈ saidL ms, m.2.length ≤ 100000 := fun m hm => by
  obtain ⟨y, _, rfl⟩ := List.mem_map.1 hm
  simp [saidM]; omega
/-- What is said, as it comes in. -/
structure SayIn (ms : List Msg) : Prop where
  b : ∀ m ∈ ms, m.2.length ≤ 9223372036854775807
  n : ms.length ≤ 9223372036854775807
set_option maxRecDepth 20000 in
theorem said0_X (b c : Bool) (ms : List Msg) (hms : SayIn ms) : XMeets Try.prog 20 [.sl b (ms.map (sdC c))] (.ow 52 2 ((saidL ms).map (sdC true)) (nl_sd _ _)) := by
  refine XMeets.of_X tabX_ok (avs := [.p (.sl false (ms.map (sdC false))) (nl_sd _ _).sl]) [(0, .p (.sl false (ms.map (sdC false))) (nl_sd _ _).sl)] (by kernel_rfl) Try.func20 rfl (by simp [PuL, Pu, netT, slC, dfC, sdC, pu_by1, pu_sl, pu_df, pu_sd, pu_sd]) (by simp only [untagL, untag, netT, untag_by1, untag_sl, untag_df, untag_sd, untag_sd]; rfl) rfl rfl ?_
  intro B w0
  have hmn := hms.n
  conv => whnf
  refine XT.nilr 3 52 2 rfl rfl ?_
  refine XT.loop tabX_ok (Y := Nat) [3, 4, 5, 8, 9, 10, 11, 12, 13, 14, 15, 16, 17, 18, 19, 20, 21, 22, 23, 24, 25, 26, 27, 28, 29] (fun k => [(8, .p (.v (.int .i64 ((k : Int)))) (nlv _)), (3, .row 0)]) (fun k => [(0, .row 52 2 ((saidR ms k).map (sdC true)) (nl_sd _ _))]) (fun k => k ≤ ms.length) (fun k => ms.length - k) 0 (Nat.zero_le _) ?_ ?_
  · skip
    refine ⟨?_, ?_, ?_⟩
    · skip
      refine leEnv_app (by kernel_rfl) (by kernel_rfl) ?_
      repeat ((conv => whnf); first | exact True.intro | refine ⟨.rfl, ?_⟩ | refine ⟨.any, ?_⟩ | refine ⟨.nil, ?_⟩ | refine ⟨.int (by first | rfl | omega | (simp only [wrs]; omega)), ?_⟩)
    · skip
      repeat (first | exact LeVs.nil | ((conv => whnf); first | exact True.intro | exact .none | exact .ext | exact .row rfl | refine .cells ?_ | refine ⟨_, _, rfl, .rfl, ?_⟩ | refine ⟨_, _, rfl, .any, ?_⟩ | refine ⟨_, _, rfl, .nil, ?_⟩ | refine ⟨_, _, rfl, .int (by first | rfl | omega | (simp only [wrs]; omega)), ?_⟩ | refine ⟨?_, ?_⟩))
      done
    · skip
      exact LeFr.nil
  · skip
    rintro k hk
    conv => whnf
    refine bS (fun hc1 => ?_) (fun hc1 => ?_)
    · skip
      try simp only [bls] at hc1
      conv => whnf
      refine IdxG.map _ rfl (by first | omega | (simp only [List.length_map] at *; omega)) ?_; intro y hy hny; have hyb := hms.b y (List.mem_of_getElem? hy)
      conv => whnf
      refine ⟨rfl, ?_⟩
      conv => whnf
      refine bS (fun hc2 => ?_) (fun hc2 => ?_)
      · skip
        try simp only [bls] at hc2
        conv => whnf
        refine RegG.par 13 (by kernel_rfl) ?_
        conv => whnf
        refine ⟨_, (Int.toNat_of_nonneg (by omega)).symm, ?_⟩
        conv => whnf
        refine ⟨by have h8 := saidR_len ms k; simp only [List.length_map, List.length_cons, List.length_nil]; omega, ?_⟩
        conv => whnf
        refine ⟨by have h8 := saidR_len ms k; simp only [List.length_map, List.length_cons, List.length_nil]; omega, ?_⟩
        conv => whnf
        refine ⟨by_len _, ?_⟩
        conv => whnf
        refine CallG.mk (cloneT_X _ y.2 70001 _ (take_min by1 y.2 70001 (m := 70001) rfl) (by simp; omega)) rfl ?_
        conv => whnf
        refine ⟨ApOk.lit rfl, ?_⟩
        conv => whnf
        refine ⟨by have h8 := saidR_len ms k; simp only [List.length_map, List.length_cons, List.length_nil]; omega, ?_⟩
        conv => whnf
        refine ⟨(k + 1), (by omega), (by omega), ?_⟩
        refine ⟨?_, ?_, ?_⟩
        · skip
          refine leEnv_app (by kernel_rfl) (by kernel_rfl) ?_
          repeat ((conv => whnf); first | exact True.intro | refine ⟨.rfl, ?_⟩ | refine ⟨.any, ?_⟩ | refine ⟨.nil, ?_⟩ | refine ⟨.int (by first | rfl | omega | (simp only [wrs]; omega)), ?_⟩)
        · skip
          repeat (first | exact LeVs.nil | ((conv => whnf); first | exact True.intro | exact .none | exact .ext | exact .row rfl | exact .row (by rw [saidR_s hy (by omega), List.map_append]; rfl) | refine .cells ?_ | refine ⟨_, _, rfl, .rfl, ?_⟩ | refine ⟨_, _, rfl, .any, ?_⟩ | refine ⟨_, _, rfl, .nil, ?_⟩ | refine ⟨_, _, rfl, .int (by first | rfl | omega | (simp only [wrs]; omega)), ?_⟩ | refine ⟨?_, ?_⟩))
          done
        · skip
          exact LeFr.nil
      · skip
        try simp only [bls] at hc2
        conv => whnf
        refine ⟨(k + 1), (by omega), (by omega), ?_⟩
        refine ⟨?_, ?_, ?_⟩
        · skip
          refine leEnv_app (by kernel_rfl) (by kernel_rfl) ?_
          repeat ((conv => whnf); first | exact True.intro | refine ⟨.rfl, ?_⟩ | refine ⟨.any, ?_⟩ | refine ⟨.nil, ?_⟩ | refine ⟨.int (by first | rfl | omega | (simp only [wrs]; omega)), ?_⟩)
        · skip
          repeat (first | exact LeVs.nil | ((conv => whnf); first | exact True.intro | exact .none | exact .ext | exact .row rfl | exact .row (by rw [saidR_n (by omega)]) | refine .cells ?_ | refine ⟨_, _, rfl, .rfl, ?_⟩ | refine ⟨_, _, rfl, .any, ?_⟩ | refine ⟨_, _, rfl, .nil, ?_⟩ | refine ⟨_, _, rfl, .int (by first | rfl | omega | (simp only [wrs]; omega)), ?_⟩ | refine ⟨?_, ?_⟩))
          done
        · skip
          exact LeFr.nil
    · skip
      try simp only [bls] at hc1
      conv => whnf
      refine FinG.mk (some 0) ?_ (by rintro _ ⟨⟩; trivial)
      simp only [outs, List.length_map, List.length_append, List.length_take, List.length_drop, List.length_cons, List.length_nil, slC, dfC, netX, net0, List.map_nil, mix_len, pkX, slX, sl0, delS]
      rw [saidR_e (by omega)]
      simp [fr_sd]
theorem said_X (b c : Bool) (ms : List Msg) (hms : SayIn ms) : XMeets Try.prog 20 [.sl b (ms.map (sdC c))] (.p (.sl true ((saidL ms).map (sdC true))) (nl_sd _ _).sl) := XMeets.of_shr (said0_X b c ms hms).1 (said0_X b c ms hms).2 (fr_sd _) rfl
theorem sendK_ok {n : NetA} {fr : Int} {ms : List Msg} (h : rightB n = true) (hn : n.Sz) (hm : ∀ m ∈ ms, m.2.length ≤ 100000) : WayS (sendK n fr ms).1 ∧ (0 ≤ (sendK n fr ms).2 ∧ (sendK n fr ms).2 < 80) ∧ ∀ x ∈ (sendK n fr ms).1, x.b.length ≤ 100000 := by
  have key : ∀ (ms : List Msg) (s : List Sl) (l : Int), (∀ m ∈ ms, m.2.length ≤ 100000) → WayS s → (0 ≤ l ∧ l < 80) → (∀ x ∈ s, x.b.length ≤ 100000) → WayS (ms.foldl (sstep n.d fr) (s, l)).1 ∧ (0 ≤ (ms.foldl (sstep n.d fr) (s, l)).2 ∧ (ms.foldl (sstep n.d fr) (s, l)).2 < 80) ∧ ∀ x ∈ (ms.foldl (sstep n.d fr) (s, l)).1, x.b.length ≤ 100000 := by
    intro ms
    induction ms with
    | nil => intro s l _ h1 h2 h3; exact ⟨h1, h2, h3⟩
    | cons m ms ih =>
      intro s l h0 h1 h2 h3
      rw [List.foldl_cons]
      unfold sstep
      have hm := h0 m (by simp)
      have h0' : ∀ m ∈ ms, m.2.length ≤ 100000 := fun x hx => h0 x (by simp [hx])
      split
      · refine ih _ _ h0' (fill_way h1 h2).1 (fill_way h1 h2).2 fun x hx => ?_
        unfold fillN at hx
        split at hx
        · rcases insS_mem.1 hx with rfl | hx
          · exact hm
          · exact h3 x hx
        · exact h3 x hx
      · exact ih s l h0' h1 h2 h3
  exact key ms n.s n.l hm (right_S h) (right_of h).l hn.b
theorem sends_sz {n : NetA} {fr : Int} {ms : List Msg} (h : rightB n = true) (hn : n.Sz) (hm : ∀ m ∈ ms, m.2.length ≤ 100000) : (⟨(sendK n fr ms).1, (sendK n fr ms).2, n.d⟩ : NetA).Sz :=
  ⟨by have := (sendK_ok (fr := fr) h hn hm).1.n; show (sendK n fr ms).1.length ≤ 100000; omega, hn.d, (sendK_ok (fr := fr) h hn hm).2.2⟩
theorem said_Y (b c : Bool) (ms0 ms : List Msg) (hms : SayIn ms0) (h : saidL ms0 = ms) : XMeets Try.prog 20 [.sl b (ms0.map (sdC c))] (.p (.sl true (ms.map (sdC true))) (nl_sd _ _).sl) := by subst h; exact said_X b c ms0 hms
theorem send_Z (n : NetA) (fr : Int) (ms : List Msg) (ho : n.Ok) (hms : ∀ m ∈ ms, m.2.length ≤ 100000) (hmn : ms.length ≤ 100000) (R : NetA) (er : Int) (hR : sendN n fr ms = (R, er)) : XMeets Try.prog 21 [.agg [.sl true (n.s.map (slC true)), .v (.int .i64 n.l), .sl true (n.d.map dfC)], .v (.int .i64 fr), .sl true (ms.map (sdC true))] (.tu [netX R, .p (.v (.int .i64 (er))) (nlv _)]) := send_X true true true true true n fr ms ho hms hmn (R, er) hR.symm
theorem deaf_Z (n : NetA) (s : List Sl) (l f t : Int) (hn : n.d.length ≤ 100000) : XMeets Try.prog 16 [.agg [.sl true (s.map (slC true)), .v (.int .i64 l), .sl true (n.d.map dfC)], .v (.int .i64 f), .v (.int .i64 t)] (.p (.v (.bool (decide ((f, t) ∈ n.d)))) (nlv _)) := deaf_X true true true ⟨s, l, n.d⟩ f t hn
theorem full_Z (n : NetA) (s : List Sl) (l : Int) : XMeets Try.prog 35 [.agg [.sl true (s.map (slC true)), .v (.int .i64 l), .sl true (n.d.map dfC)]] (.p (.v (.bool (decide (s.length = 80)))) (nlv _)) := full_X true true true ⟨s, l, n.d⟩
set_option maxHeartbeats 4000000 in
set_option maxRecDepth 20000 in
theorem lSends_X (b c e b2 c2 e2 b3 c3 : Bool) (x0 y0 : NetA) (fr : Int) (ms0 : List Msg) (hx : x0.In) (hy : y0.In) (hfr : I64 fr) (hms0 : SayIn ms0) : XMeets Try.prog 5 [netT b c e x0, netT b2 c2 e2 y0, .agg [.v (.int .i64 fr), .sl b3 (ms0.map (sdC c3))]] (.p (.v (.bool (true))) (nlv _)) := by
  refine XMeets.of_XM [(14, .row 0), (19, .row 0)] tabX_ok (avs := [.ag [.p (.sl false (x0.s.map (slC false))) (nl_sl _ _).sl, .p (.v (.int .i64 x0.l)) (nlv _), .p (.sl false (x0.d.map dfC)) (nl_df _).sl], .ag [.p (.sl false (y0.s.map (slC false))) (nl_sl _ _).sl, .p (.v (.int .i64 y0.l)) (nlv _), .p (.sl false (y0.d.map dfC)) (nl_df _).sl], .ag [.p (.v (.int .i64 fr)) (nlv _), .p (.sl false (ms0.map (sdC false))) (nl_sd _ _).sl]]) [(0, .ag [.p (.sl false (x0.s.map (slC false))) (nl_sl _ _).sl, .p (.v (.int .i64 x0.l)) (nlv _), .p (.sl false (x0.d.map dfC)) (nl_df _).sl]), (1, .ag [.p (.sl false (y0.s.map (slC false))) (nl_sl _ _).sl, .p (.v (.int .i64 y0.l)) (nlv _), .p (.sl false (y0.d.map dfC)) (nl_df _).sl]), (2, .ag [.p (.v (.int .i64 fr)) (nlv _), .p (.sl false (ms0.map (sdC false))) (nl_sd _ _).sl])] (by kernel_rfl) Try.func5 rfl (by simp [PuL, Pu, netT, slC, dfC, sdC, pu_by1, pu_sl, pu_df, pu_sd, pu_sd]) (by simp only [untagL, untag, netT, untag_by1, untag_sl, untag_df, untag_sd, untag_sd]; rfl) rfl rfl ?_
  intro B w0
  obtain ⟨n, hnn⟩ : ∃ n, fewN x0 = n := ⟨_, rfl⟩
  obtain ⟨m, hm2⟩ : ∃ m, fewN y0 = m := ⟨_, rfl⟩
  have ho : n.Ok := hnn ▸ few_ok hx
  have ho2 : m.Ok := hm2 ▸ few_ok hy
  have hsz := ho.sz
  have hsz2 := ho2.sz
  obtain ⟨ms, hmm⟩ : ∃ ms, saidL ms0 = ms := ⟨_, rfl⟩
  have hmn : ms.length ≤ 90 := hmm ▸ said_len ms0
  have hmb : ∀ m ∈ ms, m.2.length ≤ 100000 := hmm ▸ said_b ms0
  have hsn := ho.sn
  have hdn := ho.dn
  rcases send_cases n fr ms with ⟨hr, hq⟩ | ⟨hr, hnb, hq⟩ | ⟨hr, hnb, hq⟩
  · skip
    conv => whnf
    refine .ct ?_
    conv => whnf
    refine CallG.mk (wakes_X) rfl ?_
    conv => whnf
    refine RegG.par 9 (by kernel_rfl) ?_
    conv => whnf
    refine CallG.mk ((few_X _ _ _ x0 hx).eq (by rw [hnn])) rfl ?_
    conv => whnf
    refine CallG.mk ((few_X _ _ _ x0 hx).eq (by rw [hnn])) rfl ?_
    conv => whnf
    refine .z (said_Y _ _ _ _ hms0 hmm) rfl (by simp [XV.den, Pu, pu_sd]) ?_
    conv => whnf
    refine .ct ?_
    conv => whnf
    refine .z (send_Z n fr ms ho hmb (by omega) _ _ hq) rfl (by simp [netX, XV.den, XV.denL, Pu, PuL, pu_sl, pu_df]) ?_
    conv => whnf
    refine .ct ?_
    conv => whnf
    refine CallG.mk (check_f hr _ _ _ ho) rfl ?_
    conv => whnf
    refine .ct ?_
    conv => whnf
    refine CallG.mk (right_X _ _ _ n ho) rfl ?_
    conv => whnf
    refine bT (by rw [hr]; rfl) ?_
    conv => whnf
    refine RegG.par 31 (by kernel_rfl) ?_
    conv => whnf
    refine CallG.mk (same6_X true true true true true true net0 net0 net0_sz net0_sz) rfl ?_
    conv => whnf
    refine CallG.mk ((few_X _ _ _ y0 hy).eq (by rw [hm2])) rfl ?_
    conv => whnf
    refine CallG.mk (same_X true true true true true true n m hsz hsz2) rfl ?_
    conv => whnf
    refine CallG.mk ((few_X _ _ _ y0 hy).eq (by rw [hm2])) rfl ?_
    conv => whnf
    refine CallG.mk (same6_X true true true true true true n m hsz hsz2) rfl ?_
    conv => whnf
    refine bF (by simp [List.length_map, List.length_append, List.length_take, List.length_drop, List.length_cons, List.length_nil, slC, dfC, netX, net0, List.map_nil, mix_len, pkX, slX, sl0, delS]; done) ?_
    conv => whnf
    refine bF (by simp [List.length_map, List.length_append, List.length_take, List.length_drop, List.length_cons, List.length_nil, slC, dfC, netX, net0, List.map_nil, mix_len, pkX, slX, sl0, delS]; done) ?_
    conv => whnf
    refine bF (by simp [List.length_map, List.length_append, List.length_take, List.length_drop, List.length_cons, List.length_nil, slC, dfC, netX, net0, List.map_nil, mix_len, pkX, slX, sl0, delS]; done) ?_
    conv => whnf
    refine CallG.mk (same_X true true true true true true n n hsz hsz) rfl ?_
    conv => whnf
    refine bF (by simp [List.length_map, List.length_append, List.length_take, List.length_drop, List.length_cons, List.length_nil, slC, dfC, netX, net0, List.map_nil, mix_len, pkX, slX, sl0, delS]; done) ?_
    conv => whnf
    refine bF (by simp [List.length_map, List.length_append, List.length_take, List.length_drop, List.length_cons, List.length_nil, slC, dfC, netX, net0, List.map_nil, mix_len, pkX, slX, sl0, delS]; done) ?_
    conv => whnf
    refine bF (by simp [List.length_map, List.length_append, List.length_take, List.length_drop, List.length_cons, List.length_nil, slC, dfC, netX, net0, List.map_nil, mix_len, pkX, slX, sl0, delS]; done) ?_
    conv => whnf
    refine XT.zall [] [4, 5, 8] rfl (by intro d hd; cases hd) (by intro i hi; simp only [List.mem_cons, List.not_mem_nil, or_false] at hi; rcases hi with rfl | rfl | rfl <;> exact ⟨by simp [XV.den, XV.denL, Pu, PuL, pu_sl, pu_df], by simp [XV.den, XV.denL, Fr, FrL, fr_sl, fr_df], rfl⟩) ?_
    conv => whnf
    refine XT.unz 3 rfl ?_
    conv => whnf
    refine XT.pass tabX_ok ?_
    conv => whnf
    refine XT.pass tabX_ok ?_
    conv => whnf
    refine XT.loop tabX_ok (Y := Nat × List Msg) [0, 1, 2, 9, 17, 18, 22, 23, 24, 25, 28, 30, 33, 35, 37, 49, 76, 77, 78, 80, 81, 82, 87, 88, 92, 94, 95, 96, 97, 98, 99, 100, 101, 102, 103, 104, 105, 106, 107, 108, 109, 110, 111, 112] (fun (kq, q) => [(94, .p (.v (.int .i64 ((kq : Int)))) (nlv _)), (92, sdX q)]) (fun (kq, q) => []) (fun (kq, q) => kq ≤ ms.length ∧ ShD q ms) (fun (kq, q) => ms.length - kq) (0, ms) ⟨Nat.zero_le _, .refl _⟩ ?_ ?_
    · skip
      refine ⟨?_, ?_, ?_⟩
      · skip
        refine leEnv_app (by kernel_rfl) (by kernel_rfl) ?_
        repeat ((conv => whnf); first | exact True.intro | refine ⟨.rfl, ?_⟩ | refine ⟨.any, ?_⟩ | refine ⟨.nil, ?_⟩ | refine ⟨.int (by first | rfl | omega | (simp only [wrs]; omega)), ?_⟩)
      · skip
        repeat (first | exact LeVs.nil | ((conv => whnf); first | exact True.intro | exact .none | exact .ext | exact .row rfl | refine .cells ?_ | refine ⟨_, _, rfl, .rfl, ?_⟩ | refine ⟨_, _, rfl, .any, ?_⟩ | refine ⟨_, _, rfl, .nil, ?_⟩ | refine ⟨_, _, rfl, .int (by first | rfl | omega | (simp only [wrs]; omega)), ?_⟩ | refine ⟨?_, ?_⟩))
        done
      · skip
        exact LeFr.same (by kernel_rfl)
    · skip
      rintro ⟨kq, q⟩ ⟨hk, hq⟩
      have hql := hq.n
      have hqb := hq.le hmb
      conv => whnf
      refine bS (fun hc1 => ?_) (fun hc1 => ?_)
      · skip
        try simp only [bls] at hc1
        conv => whnf
        refine IdxG.map (l := q) _ rfl (by first | omega | (simp only [List.length_map] at *; omega)) ?_; intro q1 hq1 hnq; have hq1b := hqb q1 (List.mem_of_getElem? hq1)
        conv => whnf
        refine ⟨rfl, ?_⟩
        conv => whnf
        refine XT.loop tabX_ok (Y := Nat × List Msg × List Int) [18, 92, 96, 97, 99, 101, 102, 103, 104, 105, 106, 107, 108, 109, 110, 111] (fun (k2, q2, b2) => [(101, .p (.v (.int .i64 ((k2 : Int)))) (nlv _)), (92, sdX q2)]) (fun (k2, q2, b2) => [(10, .cells 52 (boxX q1.1 b2))]) (fun (k2, q2, b2) => k2 ≤ q1.2.length ∧ ShD q2 q ∧ b2.length = q1.2.length) (fun (k2, q2, b2) => q1.2.length - k2) (0, q, q1.2) ⟨Nat.zero_le _, .refl _, rfl⟩ ?_ ?_
        · skip
          refine ⟨?_, ?_, ?_⟩
          · skip
            refine leEnv_app (by kernel_rfl) (by kernel_rfl) ?_
            repeat ((conv => whnf); first | exact True.intro | refine ⟨.rfl, ?_⟩ | refine ⟨.any, ?_⟩ | refine ⟨.nil, ?_⟩ | refine ⟨.int (by first | rfl | omega | (simp only [wrs]; omega)), ?_⟩)
          · skip
            repeat (first | exact LeVs.nil | ((conv => whnf); first | exact True.intro | exact .none | exact .ext | exact .row rfl | refine .cells ?_ | refine ⟨_, _, rfl, .rfl, ?_⟩ | refine ⟨_, _, rfl, .any, ?_⟩ | refine ⟨_, _, rfl, .nil, ?_⟩ | refine ⟨_, _, rfl, .int (by first | rfl | omega | (simp only [wrs]; omega)), ?_⟩ | refine ⟨?_, ?_⟩))
            done
          · skip
            exact LeFr.same (by kernel_rfl)
        · skip
          rintro ⟨k2, q2, b2⟩ ⟨hk2, hq2, hb2⟩
          conv => whnf
          refine bS (fun hc2 => ?_) (fun hc2 => ?_)
          · skip
            try simp only [bls] at hc2
            conv => whnf
            refine XT.overW tabX_ok 6 [(10, fun z : List Msg × List Int => boxX q1.1 z.2)] [(92, fun z : List Msg × List Int => sdX z.1)] (fun z => ShD z.1 q2 ∧ z.2.length = b2.length) rfl ⟨rfl, rfl, rfl⟩ ⟨rfl, rfl, rfl⟩ (tT rfl) rfl (tT rfl) rfl (tT rfl) rfl rfl rfl ?_
            conv => whnf
            refine IdxG.map (l := b2) _ rfl (by first | omega | (simp only [List.length_map] at *; omega)) ?_; intro yb hyb hnyb
            conv => whnf
            refine ⟨rfl, ?_⟩
            conv => whnf
            refine ⟨b2, (nl_by1 _).sl, k2, nlv _, IntKind.u8.wrap (yb + 1), rfl, rfl, by omega, fun v => rfl, bl_in rfl rfl, ?_⟩; intro z hz
            conv => whnf
            refine ⟨(k2 + 1, z.1, z.2), ⟨by omega, hz.1.trans hq2, hz.2.trans hb2⟩, (by show q1.2.length - (k2 + 1) < q1.2.length - k2; omega), ?_⟩
            refine ⟨?_, ?_, ?_⟩
            · skip
              refine leEnv_app (by kernel_rfl) (by kernel_rfl) ?_
              repeat ((conv => whnf); first | exact True.intro | refine ⟨.rfl, ?_⟩ | refine ⟨.any, ?_⟩ | refine ⟨.nil, ?_⟩ | refine ⟨.int (by first | rfl | omega | (simp only [wrs]; omega)), ?_⟩)
            · skip
              repeat (first | exact LeVs.nil | ((conv => whnf); first | exact True.intro | exact .none | exact .ext | exact .row rfl | refine .cells ?_ | refine ⟨_, _, rfl, .rfl, ?_⟩ | refine ⟨_, _, rfl, .any, ?_⟩ | refine ⟨_, _, rfl, .nil, ?_⟩ | refine ⟨_, _, rfl, .int (by first | rfl | omega | (simp only [wrs]; omega)), ?_⟩ | refine ⟨?_, ?_⟩))
              done
            · skip
              exact LeFr.same (by kernel_rfl)
          · skip
            try simp only [bls] at hc2
            conv => whnf
            refine ⟨(kq + 1, q2), ⟨by omega, hq2.trans hq⟩, (by show ms.length - (kq + 1) < ms.length - kq; omega), ?_⟩
            refine ⟨?_, ?_, ?_⟩
            · skip
              refine leEnv_app (by kernel_rfl) (by kernel_rfl) ?_
              repeat ((conv => whnf); first | exact True.intro | refine ⟨.rfl, ?_⟩ | refine ⟨.any, ?_⟩ | refine ⟨.nil, ?_⟩ | refine ⟨.int (by first | rfl | omega | (simp only [wrs]; omega)), ?_⟩)
            · skip
              repeat (first | exact LeVs.nil | ((conv => whnf); first | exact True.intro | exact .none | exact .ext | exact .row rfl | refine .cells ?_ | refine ⟨_, _, rfl, .rfl, ?_⟩ | refine ⟨_, _, rfl, .any, ?_⟩ | refine ⟨_, _, rfl, .nil, ?_⟩ | refine ⟨_, _, rfl, .int (by first | rfl | omega | (simp only [wrs]; omega)), ?_⟩ | refine ⟨?_, ?_⟩))
              done
            · skip
              exact LeFr.same (by kernel_rfl)
      · skip
        try simp only [bls] at hc1
        conv => whnf
        refine .ct ?_
        conv => whnf
        refine CallG.mk (same6_X true true true true true true net0 net0 net0_sz net0_sz) rfl ?_
        conv => whnf
        refine .wr (WCall.spoilZ 6 (ts := [netT true true true net0]) (sz_spoil net0_sz) rfl rfl ?_)
        conv => whnf
        refine .ct ?_
        conv => whnf
        refine CallG.mk (same6_X true true true true true true n n hsz hsz) rfl ?_
        conv => whnf
        refine FinG.mk none ?_ (by rintro _ ⟨⟩)
        simp only [outs, List.length_map, List.length_append, List.length_take, List.length_drop, List.length_cons, List.length_nil, slC, dfC, netX, net0, List.map_nil, mix_len, pkX, slX, sl0, delS]
        simp; done
  · skip
    have hnd : fr < 1 ∨ 8 < fr := by cases h1 : decide (1 ≤ fr) <;> cases h2 : decide (fr ≤ 8) <;> simp [nodeB, h1, h2] at hnb <;> simp at h1 h2 <;> omega
    conv => whnf
    refine .ct ?_
    conv => whnf
    refine CallG.mk (wakes_X) rfl ?_
    conv => whnf
    refine RegG.par 9 (by kernel_rfl) ?_
    conv => whnf
    refine CallG.mk ((few_X _ _ _ x0 hx).eq (by rw [hnn])) rfl ?_
    conv => whnf
    refine CallG.mk ((few_X _ _ _ x0 hx).eq (by rw [hnn])) rfl ?_
    conv => whnf
    refine .z (said_Y _ _ _ _ hms0 hmm) rfl (by simp [XV.den, Pu, pu_sd]) ?_
    conv => whnf
    refine .ct ?_
    conv => whnf
    refine .z (send_Z n fr ms ho hmb (by omega) _ _ hq) rfl (by simp [netX, XV.den, XV.denL, Pu, PuL, pu_sl, pu_df]) ?_
    conv => whnf
    refine .ct ?_
    conv => whnf
    refine CallG.mk (check_t hr _ _ _ ho) rfl ?_
    conv => whnf
    refine .ct ?_
    conv => whnf
    refine CallG.mk (right_X _ _ _ n ho) rfl ?_
    conv => whnf
    refine bF (by rw [hr]; rfl) ?_
    conv => whnf
    refine bS (fun hc3 => ?_) (fun hc3 => ?_)
    · skip
      try simp only [bls] at hc3
      conv => whnf
      refine bT (by simp only [bls]; assumption) ?_
      conv => whnf
      refine bT (by simp only [bls]; assumption) ?_
      conv => whnf
      refine bT (by simp only [bls]; assumption) ?_
      conv => whnf
      refine RegG.par 31 (by kernel_rfl) ?_
      conv => whnf
      refine CallG.mk (same6_X true true true true true true net0 net0 net0_sz net0_sz) rfl ?_
      conv => whnf
      refine CallG.mk ((few_X _ _ _ y0 hy).eq (by rw [hm2])) rfl ?_
      conv => whnf
      refine CallG.mk (same_X true true true true true true n m hsz hsz2) rfl ?_
      conv => whnf
      refine CallG.mk ((few_X _ _ _ y0 hy).eq (by rw [hm2])) rfl ?_
      conv => whnf
      refine CallG.mk (same6_X true true true true true true n m hsz hsz2) rfl ?_
      conv => whnf
      refine bF (by simp [List.length_map, List.length_append, List.length_take, List.length_drop, List.length_cons, List.length_nil, slC, dfC, netX, net0, List.map_nil, mix_len, pkX, slX, sl0, delS]; done) ?_
      conv => whnf
      refine bF (by simp [List.length_map, List.length_append, List.length_take, List.length_drop, List.length_cons, List.length_nil, slC, dfC, netX, net0, List.map_nil, mix_len, pkX, slX, sl0, delS]; done) ?_
      conv => whnf
      refine bF (by simp [List.length_map, List.length_append, List.length_take, List.length_drop, List.length_cons, List.length_nil, slC, dfC, netX, net0, List.map_nil, mix_len, pkX, slX, sl0, delS]; done) ?_
      conv => whnf
      refine CallG.mk (same_X true true true true true true n n hsz hsz) rfl ?_
      conv => whnf
      refine bF (by simp [List.length_map, List.length_append, List.length_take, List.length_drop, List.length_cons, List.length_nil, slC, dfC, netX, net0, List.map_nil, mix_len, pkX, slX, sl0, delS]; done) ?_
      conv => whnf
      refine bF (by simp [List.length_map, List.length_append, List.length_take, List.length_drop, List.length_cons, List.length_nil, slC, dfC, netX, net0, List.map_nil, mix_len, pkX, slX, sl0, delS]; done) ?_
      conv => whnf
      refine bF (by simp [List.length_map, List.length_append, List.length_take, List.length_drop, List.length_cons, List.length_nil, slC, dfC, netX, net0, List.map_nil, mix_len, pkX, slX, sl0, delS]; done) ?_
      conv => whnf
      refine XT.zall [] [4, 5, 8] rfl (by intro d hd; cases hd) (by intro i hi; simp only [List.mem_cons, List.not_mem_nil, or_false] at hi; rcases hi with rfl | rfl | rfl <;> exact ⟨by simp [XV.den, XV.denL, Pu, PuL, pu_sl, pu_df], by simp [XV.den, XV.denL, Fr, FrL, fr_sl, fr_df], rfl⟩) ?_
      conv => whnf
      refine XT.unz 3 rfl ?_
      conv => whnf
      refine XT.pass tabX_ok ?_
      conv => whnf
      refine XT.pass tabX_ok ?_
      conv => whnf
      refine XT.loop tabX_ok (Y := Nat × List Msg) [0, 1, 2, 9, 17, 18, 22, 23, 24, 25, 28, 30, 33, 35, 37, 49, 76, 77, 78, 80, 81, 82, 87, 88, 92, 94, 95, 96, 97, 98, 99, 100, 101, 102, 103, 104, 105, 106, 107, 108, 109, 110, 111, 112] (fun (kq, q) => [(94, .p (.v (.int .i64 ((kq : Int)))) (nlv _)), (92, sdX q)]) (fun (kq, q) => []) (fun (kq, q) => kq ≤ ms.length ∧ ShD q ms) (fun (kq, q) => ms.length - kq) (0, ms) ⟨Nat.zero_le _, .refl _⟩ ?_ ?_
      · skip
        refine ⟨?_, ?_, ?_⟩
        · skip
          refine leEnv_app (by kernel_rfl) (by kernel_rfl) ?_
          repeat ((conv => whnf); first | exact True.intro | refine ⟨.rfl, ?_⟩ | refine ⟨.any, ?_⟩ | refine ⟨.nil, ?_⟩ | refine ⟨.int (by first | rfl | omega | (simp only [wrs]; omega)), ?_⟩)
        · skip
          repeat (first | exact LeVs.nil | ((conv => whnf); first | exact True.intro | exact .none | exact .ext | exact .row rfl | refine .cells ?_ | refine ⟨_, _, rfl, .rfl, ?_⟩ | refine ⟨_, _, rfl, .any, ?_⟩ | refine ⟨_, _, rfl, .nil, ?_⟩ | refine ⟨_, _, rfl, .int (by first | rfl | omega | (simp only [wrs]; omega)), ?_⟩ | refine ⟨?_, ?_⟩))
          done
        · skip
          exact LeFr.same (by kernel_rfl)
      · skip
        rintro ⟨kq, q⟩ ⟨hk, hq⟩
        have hql := hq.n
        have hqb := hq.le hmb
        conv => whnf
        refine bS (fun hc4 => ?_) (fun hc4 => ?_)
        · skip
          try simp only [bls] at hc4
          conv => whnf
          refine IdxG.map (l := q) _ rfl (by first | omega | (simp only [List.length_map] at *; omega)) ?_; intro q1 hq1 hnq; have hq1b := hqb q1 (List.mem_of_getElem? hq1)
          conv => whnf
          refine ⟨rfl, ?_⟩
          conv => whnf
          refine XT.loop tabX_ok (Y := Nat × List Msg × List Int) [18, 92, 96, 97, 99, 101, 102, 103, 104, 105, 106, 107, 108, 109, 110, 111] (fun (k2, q2, b2) => [(101, .p (.v (.int .i64 ((k2 : Int)))) (nlv _)), (92, sdX q2)]) (fun (k2, q2, b2) => [(10, .cells 52 (boxX q1.1 b2))]) (fun (k2, q2, b2) => k2 ≤ q1.2.length ∧ ShD q2 q ∧ b2.length = q1.2.length) (fun (k2, q2, b2) => q1.2.length - k2) (0, q, q1.2) ⟨Nat.zero_le _, .refl _, rfl⟩ ?_ ?_
          · skip
            refine ⟨?_, ?_, ?_⟩
            · skip
              refine leEnv_app (by kernel_rfl) (by kernel_rfl) ?_
              repeat ((conv => whnf); first | exact True.intro | refine ⟨.rfl, ?_⟩ | refine ⟨.any, ?_⟩ | refine ⟨.nil, ?_⟩ | refine ⟨.int (by first | rfl | omega | (simp only [wrs]; omega)), ?_⟩)
            · skip
              repeat (first | exact LeVs.nil | ((conv => whnf); first | exact True.intro | exact .none | exact .ext | exact .row rfl | refine .cells ?_ | refine ⟨_, _, rfl, .rfl, ?_⟩ | refine ⟨_, _, rfl, .any, ?_⟩ | refine ⟨_, _, rfl, .nil, ?_⟩ | refine ⟨_, _, rfl, .int (by first | rfl | omega | (simp only [wrs]; omega)), ?_⟩ | refine ⟨?_, ?_⟩))
              done
            · skip
              exact LeFr.same (by kernel_rfl)
          · skip
            rintro ⟨k2, q2, b2⟩ ⟨hk2, hq2, hb2⟩
            conv => whnf
            refine bS (fun hc5 => ?_) (fun hc5 => ?_)
            · skip
              try simp only [bls] at hc5
              conv => whnf
              refine XT.overW tabX_ok 6 [(10, fun z : List Msg × List Int => boxX q1.1 z.2)] [(92, fun z : List Msg × List Int => sdX z.1)] (fun z => ShD z.1 q2 ∧ z.2.length = b2.length) rfl ⟨rfl, rfl, rfl⟩ ⟨rfl, rfl, rfl⟩ (tT rfl) rfl (tT rfl) rfl (tT rfl) rfl rfl rfl ?_
              conv => whnf
              refine IdxG.map (l := b2) _ rfl (by first | omega | (simp only [List.length_map] at *; omega)) ?_; intro yb hyb hnyb
              conv => whnf
              refine ⟨rfl, ?_⟩
              conv => whnf
              refine ⟨b2, (nl_by1 _).sl, k2, nlv _, IntKind.u8.wrap (yb + 1), rfl, rfl, by omega, fun v => rfl, bl_in rfl rfl, ?_⟩; intro z hz
              conv => whnf
              refine ⟨(k2 + 1, z.1, z.2), ⟨by omega, hz.1.trans hq2, hz.2.trans hb2⟩, (by show q1.2.length - (k2 + 1) < q1.2.length - k2; omega), ?_⟩
              refine ⟨?_, ?_, ?_⟩
              · skip
                refine leEnv_app (by kernel_rfl) (by kernel_rfl) ?_
                repeat ((conv => whnf); first | exact True.intro | refine ⟨.rfl, ?_⟩ | refine ⟨.any, ?_⟩ | refine ⟨.nil, ?_⟩ | refine ⟨.int (by first | rfl | omega | (simp only [wrs]; omega)), ?_⟩)
              · skip
                repeat (first | exact LeVs.nil | ((conv => whnf); first | exact True.intro | exact .none | exact .ext | exact .row rfl | refine .cells ?_ | refine ⟨_, _, rfl, .rfl, ?_⟩ | refine ⟨_, _, rfl, .any, ?_⟩ | refine ⟨_, _, rfl, .nil, ?_⟩ | refine ⟨_, _, rfl, .int (by first | rfl | omega | (simp only [wrs]; omega)), ?_⟩ | refine ⟨?_, ?_⟩))
                done
              · skip
                exact LeFr.same (by kernel_rfl)
            · skip
              try simp only [bls] at hc5
              conv => whnf
              refine ⟨(kq + 1, q2), ⟨by omega, hq2.trans hq⟩, (by show ms.length - (kq + 1) < ms.length - kq; omega), ?_⟩
              refine ⟨?_, ?_, ?_⟩
              · skip
                refine leEnv_app (by kernel_rfl) (by kernel_rfl) ?_
                repeat ((conv => whnf); first | exact True.intro | refine ⟨.rfl, ?_⟩ | refine ⟨.any, ?_⟩ | refine ⟨.nil, ?_⟩ | refine ⟨.int (by first | rfl | omega | (simp only [wrs]; omega)), ?_⟩)
              · skip
                repeat (first | exact LeVs.nil | ((conv => whnf); first | exact True.intro | exact .none | exact .ext | exact .row rfl | refine .cells ?_ | refine ⟨_, _, rfl, .rfl, ?_⟩ | refine ⟨_, _, rfl, .any, ?_⟩ | refine ⟨_, _, rfl, .nil, ?_⟩ | refine ⟨_, _, rfl, .int (by first | rfl | omega | (simp only [wrs]; omega)), ?_⟩ | refine ⟨?_, ?_⟩))
                done
              · skip
                exact LeFr.same (by kernel_rfl)
        · skip
          try simp only [bls] at hc4
          conv => whnf
          refine .ct ?_
          conv => whnf
          refine CallG.mk (same6_X true true true true true true net0 net0 net0_sz net0_sz) rfl ?_
          conv => whnf
          refine .wr (WCall.spoilZ 6 (ts := [netT true true true net0]) (sz_spoil net0_sz) rfl rfl ?_)
          conv => whnf
          refine .ct ?_
          conv => whnf
          refine CallG.mk (same6_X true true true true true true n n hsz hsz) rfl ?_
          conv => whnf
          refine FinG.mk none ?_ (by rintro _ ⟨⟩)
          simp only [outs, List.length_map, List.length_append, List.length_take, List.length_drop, List.length_cons, List.length_nil, slC, dfC, netX, net0, List.map_nil, mix_len, pkX, slX, sl0, delS]
          simp; done
    · skip
      try simp only [bls] at hc3
      conv => whnf
      refine bF (by simp only [bls]; assumption) ?_
      conv => whnf
      refine bF (by simp only [bls]; assumption) ?_
      conv => whnf
      refine bF (by simp only [bls]; assumption) ?_
      conv => whnf
      refine bT (decide_eq_true (by omega)) ?_
      conv => whnf
      refine RegG.par 31 (by kernel_rfl) ?_
      conv => whnf
      refine CallG.mk (same6_X true true true true true true net0 net0 net0_sz net0_sz) rfl ?_
      conv => whnf
      refine CallG.mk ((few_X _ _ _ y0 hy).eq (by rw [hm2])) rfl ?_
      conv => whnf
      refine CallG.mk (same_X true true true true true true n m hsz hsz2) rfl ?_
      conv => whnf
      refine CallG.mk ((few_X _ _ _ y0 hy).eq (by rw [hm2])) rfl ?_
      conv => whnf
      refine CallG.mk (same6_X true true true true true true n m hsz hsz2) rfl ?_
      conv => whnf
      refine bF (by simp [List.length_map, List.length_append, List.length_take, List.length_drop, List.length_cons, List.length_nil, slC, dfC, netX, net0, List.map_nil, mix_len, pkX, slX, sl0, delS]; done) ?_
      conv => whnf
      refine bF (by simp [List.length_map, List.length_append, List.length_take, List.length_drop, List.length_cons, List.length_nil, slC, dfC, netX, net0, List.map_nil, mix_len, pkX, slX, sl0, delS]; done) ?_
      conv => whnf
      refine bF (by simp [List.length_map, List.length_append, List.length_take, List.length_drop, List.length_cons, List.length_nil, slC, dfC, netX, net0, List.map_nil, mix_len, pkX, slX, sl0, delS]; done) ?_
      conv => whnf
      refine CallG.mk (same_X true true true true true true n n hsz hsz) rfl ?_
      conv => whnf
      refine bF (by simp [List.length_map, List.length_append, List.length_take, List.length_drop, List.length_cons, List.length_nil, slC, dfC, netX, net0, List.map_nil, mix_len, pkX, slX, sl0, delS]; done) ?_
      conv => whnf
      refine bF (by simp [List.length_map, List.length_append, List.length_take, List.length_drop, List.length_cons, List.length_nil, slC, dfC, netX, net0, List.map_nil, mix_len, pkX, slX, sl0, delS]; done) ?_
      conv => whnf
      refine bF (by simp [List.length_map, List.length_append, List.length_take, List.length_drop, List.length_cons, List.length_nil, slC, dfC, netX, net0, List.map_nil, mix_len, pkX, slX, sl0, delS]; done) ?_
      conv => whnf
      refine XT.zall [] [4, 5, 8] rfl (by intro d hd; cases hd) (by intro i hi; simp only [List.mem_cons, List.not_mem_nil, or_false] at hi; rcases hi with rfl | rfl | rfl <;> exact ⟨by simp [XV.den, XV.denL, Pu, PuL, pu_sl, pu_df], by simp [XV.den, XV.denL, Fr, FrL, fr_sl, fr_df], rfl⟩) ?_
      conv => whnf
      refine XT.unz 3 rfl ?_
      conv => whnf
      refine XT.pass tabX_ok ?_
      conv => whnf
      refine XT.pass tabX_ok ?_
      conv => whnf
      refine XT.loop tabX_ok (Y := Nat × List Msg) [0, 1, 2, 9, 17, 18, 22, 23, 24, 25, 28, 30, 33, 35, 37, 49, 76, 77, 78, 80, 81, 82, 87, 88, 92, 94, 95, 96, 97, 98, 99, 100, 101, 102, 103, 104, 105, 106, 107, 108, 109, 110, 111, 112] (fun (kq, q) => [(94, .p (.v (.int .i64 ((kq : Int)))) (nlv _)), (92, sdX q)]) (fun (kq, q) => []) (fun (kq, q) => kq ≤ ms.length ∧ ShD q ms) (fun (kq, q) => ms.length - kq) (0, ms) ⟨Nat.zero_le _, .refl _⟩ ?_ ?_
      · skip
        refine ⟨?_, ?_, ?_⟩
        · skip
          refine leEnv_app (by kernel_rfl) (by kernel_rfl) ?_
          repeat ((conv => whnf); first | exact True.intro | refine ⟨.rfl, ?_⟩ | refine ⟨.any, ?_⟩ | refine ⟨.nil, ?_⟩ | refine ⟨.int (by first | rfl | omega | (simp only [wrs]; omega)), ?_⟩)
        · skip
          repeat (first | exact LeVs.nil | ((conv => whnf); first | exact True.intro | exact .none | exact .ext | exact .row rfl | refine .cells ?_ | refine ⟨_, _, rfl, .rfl, ?_⟩ | refine ⟨_, _, rfl, .any, ?_⟩ | refine ⟨_, _, rfl, .nil, ?_⟩ | refine ⟨_, _, rfl, .int (by first | rfl | omega | (simp only [wrs]; omega)), ?_⟩ | refine ⟨?_, ?_⟩))
          done
        · skip
          exact LeFr.same (by kernel_rfl)
      · skip
        rintro ⟨kq, q⟩ ⟨hk, hq⟩
        have hql := hq.n
        have hqb := hq.le hmb
        conv => whnf
        refine bS (fun hc6 => ?_) (fun hc6 => ?_)
        · skip
          try simp only [bls] at hc6
          conv => whnf
          refine IdxG.map (l := q) _ rfl (by first | omega | (simp only [List.length_map] at *; omega)) ?_; intro q1 hq1 hnq; have hq1b := hqb q1 (List.mem_of_getElem? hq1)
          conv => whnf
          refine ⟨rfl, ?_⟩
          conv => whnf
          refine XT.loop tabX_ok (Y := Nat × List Msg × List Int) [18, 92, 96, 97, 99, 101, 102, 103, 104, 105, 106, 107, 108, 109, 110, 111] (fun (k2, q2, b2) => [(101, .p (.v (.int .i64 ((k2 : Int)))) (nlv _)), (92, sdX q2)]) (fun (k2, q2, b2) => [(10, .cells 52 (boxX q1.1 b2))]) (fun (k2, q2, b2) => k2 ≤ q1.2.length ∧ ShD q2 q ∧ b2.length = q1.2.length) (fun (k2, q2, b2) => q1.2.length - k2) (0, q, q1.2) ⟨Nat.zero_le _, .refl _, rfl⟩ ?_ ?_
          · skip
            refine ⟨?_, ?_, ?_⟩
            · skip
              refine leEnv_app (by kernel_rfl) (by kernel_rfl) ?_
              repeat ((conv => whnf); first | exact True.intro | refine ⟨.rfl, ?_⟩ | refine ⟨.any, ?_⟩ | refine ⟨.nil, ?_⟩ | refine ⟨.int (by first | rfl | omega | (simp only [wrs]; omega)), ?_⟩)
            · skip
              repeat (first | exact LeVs.nil | ((conv => whnf); first | exact True.intro | exact .none | exact .ext | exact .row rfl | refine .cells ?_ | refine ⟨_, _, rfl, .rfl, ?_⟩ | refine ⟨_, _, rfl, .any, ?_⟩ | refine ⟨_, _, rfl, .nil, ?_⟩ | refine ⟨_, _, rfl, .int (by first | rfl | omega | (simp only [wrs]; omega)), ?_⟩ | refine ⟨?_, ?_⟩))
              done
            · skip
              exact LeFr.same (by kernel_rfl)
          · skip
            rintro ⟨k2, q2, b2⟩ ⟨hk2, hq2, hb2⟩
            conv => whnf
            refine bS (fun hc7 => ?_) (fun hc7 => ?_)
            · skip
              try simp only [bls] at hc7
              conv => whnf
              refine XT.overW tabX_ok 6 [(10, fun z : List Msg × List Int => boxX q1.1 z.2)] [(92, fun z : List Msg × List Int => sdX z.1)] (fun z => ShD z.1 q2 ∧ z.2.length = b2.length) rfl ⟨rfl, rfl, rfl⟩ ⟨rfl, rfl, rfl⟩ (tT rfl) rfl (tT rfl) rfl (tT rfl) rfl rfl rfl ?_
              conv => whnf
              refine IdxG.map (l := b2) _ rfl (by first | omega | (simp only [List.length_map] at *; omega)) ?_; intro yb hyb hnyb
              conv => whnf
              refine ⟨rfl, ?_⟩
              conv => whnf
              refine ⟨b2, (nl_by1 _).sl, k2, nlv _, IntKind.u8.wrap (yb + 1), rfl, rfl, by omega, fun v => rfl, bl_in rfl rfl, ?_⟩; intro z hz
              conv => whnf
              refine ⟨(k2 + 1, z.1, z.2), ⟨by omega, hz.1.trans hq2, hz.2.trans hb2⟩, (by show q1.2.length - (k2 + 1) < q1.2.length - k2; omega), ?_⟩
              refine ⟨?_, ?_, ?_⟩
              · skip
                refine leEnv_app (by kernel_rfl) (by kernel_rfl) ?_
                repeat ((conv => whnf); first | exact True.intro | refine ⟨.rfl, ?_⟩ | refine ⟨.any, ?_⟩ | refine ⟨.nil, ?_⟩ | refine ⟨.int (by first | rfl | omega | (simp only [wrs]; omega)), ?_⟩)
              · skip
                repeat (first | exact LeVs.nil | ((conv => whnf); first | exact True.intro | exact .none | exact .ext | exact .row rfl | refine .cells ?_ | refine ⟨_, _, rfl, .rfl, ?_⟩ | refine ⟨_, _, rfl, .any, ?_⟩ | refine ⟨_, _, rfl, .nil, ?_⟩ | refine ⟨_, _, rfl, .int (by first | rfl | omega | (simp only [wrs]; omega)), ?_⟩ | refine ⟨?_, ?_⟩))
                done
              · skip
                exact LeFr.same (by kernel_rfl)
            · skip
              try simp only [bls] at hc7
              conv => whnf
              refine ⟨(kq + 1, q2), ⟨by omega, hq2.trans hq⟩, (by show ms.length - (kq + 1) < ms.length - kq; omega), ?_⟩
              refine ⟨?_, ?_, ?_⟩
              · skip
                refine leEnv_app (by kernel_rfl) (by kernel_rfl) ?_
                repeat ((conv => whnf); first | exact True.intro | refine ⟨.rfl, ?_⟩ | refine ⟨.any, ?_⟩ | refine ⟨.nil, ?_⟩ | refine ⟨.int (by first | rfl | omega | (simp only [wrs]; omega)), ?_⟩)
              · skip
                repeat (first | exact LeVs.nil | ((conv => whnf); first | exact True.intro | exact .none | exact .ext | exact .row rfl | refine .cells ?_ | refine ⟨_, _, rfl, .rfl, ?_⟩ | refine ⟨_, _, rfl, .any, ?_⟩ | refine ⟨_, _, rfl, .nil, ?_⟩ | refine ⟨_, _, rfl, .int (by first | rfl | omega | (simp only [wrs]; omega)), ?_⟩ | refine ⟨?_, ?_⟩))
                done
              · skip
                exact LeFr.same (by kernel_rfl)
        · skip
          try simp only [bls] at hc6
          conv => whnf
          refine .ct ?_
          conv => whnf
          refine CallG.mk (same6_X true true true true true true net0 net0 net0_sz net0_sz) rfl ?_
          conv => whnf
          refine .wr (WCall.spoilZ 6 (ts := [netT true true true net0]) (sz_spoil net0_sz) rfl rfl ?_)
          conv => whnf
          refine .ct ?_
          conv => whnf
          refine CallG.mk (same6_X true true true true true true n n hsz hsz) rfl ?_
          conv => whnf
          refine FinG.mk none ?_ (by rintro _ ⟨⟩)
          simp only [outs, List.length_map, List.length_append, List.length_take, List.length_drop, List.length_cons, List.length_nil, slC, dfC, netX, net0, List.map_nil, mix_len, pkX, slX, sl0, delS]
          simp; done
  · skip
    have hnd : 1 ≤ fr ∧ fr ≤ 8 := by simpa [nodeB] using hnb
    obtain ⟨s3, l3, h3⟩ : ∃ s3 l3, sendK n fr ms = (s3, l3) := ⟨_, _, rfl⟩
    have hz3 : (⟨s3, l3, n.d⟩ : NetA).Sz := by have := sends_sz (fr := fr) hr hsz hmb; rw [h3] at this; exact this
    replace hq : sendN n fr ms = (⟨s3, l3, n.d⟩, 0) := by rw [hq, h3]
    conv => whnf
    refine .ct ?_
    conv => whnf
    refine CallG.mk (wakes_X) rfl ?_
    conv => whnf
    refine RegG.par 9 (by kernel_rfl) ?_
    conv => whnf
    refine CallG.mk ((few_X _ _ _ x0 hx).eq (by rw [hnn])) rfl ?_
    conv => whnf
    refine CallG.mk ((few_X _ _ _ x0 hx).eq (by rw [hnn])) rfl ?_
    conv => whnf
    refine .z (said_Y _ _ _ _ hms0 hmm) rfl (by simp [XV.den, Pu, pu_sd]) ?_
    conv => whnf
    refine .ct ?_
    conv => whnf
    refine .z (send_Z n fr ms ho hmb (by omega) _ _ hq) rfl (by simp [netX, XV.den, XV.denL, Pu, PuL, pu_sl, pu_df]) ?_
    conv => whnf
    refine .ct ?_
    conv => whnf
    refine CallG.mk (check_t hr _ _ _ ho) rfl ?_
    conv => whnf
    refine .ct ?_
    conv => whnf
    refine CallG.mk (right_X _ _ _ n ho) rfl ?_
    conv => whnf
    refine bF (by rw [hr]; rfl) ?_
    conv => whnf
    refine bF (decide_eq_false (by omega)) ?_
    conv => whnf
    refine bF (decide_eq_false (by omega)) ?_
    conv => whnf
    refine bF (decide_eq_false (by omega)) ?_
    conv => whnf
    refine bF (decide_eq_false (by omega)) ?_
    conv => whnf
    refine bF (decide_eq_false (by omega)) ?_
    conv => whnf
    refine RegG.par 7 (by kernel_rfl) ?_
    conv => whnf
    refine CallG.mk ((few_X _ _ _ x0 hx).eq (by rw [hnn])) rfl ?_
    conv => whnf
    refine CallG.mk (said_Y _ _ _ _ hms0 hmm) rfl ?_
    conv => whnf
    refine .inl ?_
    conv => whnf
    refine InlG.mk (by kernel_rfl) Try.func23 rfl (Nat.le_of_ble_eq_true rfl) (XT.of tabX_ok ?_)
    conv => whnf
    refine XT.tidy ?_
    conv => whnf
    refine XT.loopZ tabX_ok (Y := Nat × List Sl × Int) [8, 9, 12, 13, 14, 15, 16, 17, 18, 19, 20, 21, 22, 23, 24, 25, 26, 27, 28, 29, 30, 31, 32, 33, 34, 35, 36, 37, 38, 39, 40] (fun (k, s, l) => [(12, .p (.v (.int .i64 ((k : Int)))) (nlv _))]) (fun (k, s, l) => [(9, .cells 25 [.p (.sl true (s.map (slC true))) (nl_sl _ _).sl, .p (.v (.int .i64 (l))) (nlv _), .p (.sl true (n.d.map dfC)) (nl_df _).sl])]) (fun (k, s, l) => k ≤ ms.length ∧ sendK n fr (ms.take k) = (s, l) ∧ WayS s ∧ 0 ≤ l ∧ l < 80) (fun (k, s, l) => ms.length - k) (0, n.s, n.l) ⟨Nat.zero_le _, rfl, right_S hr, (right_of hr).l⟩ ?_ ?_
    · skip
      refine ⟨?_, ?_, ?_⟩
      · skip
        refine leEnv_app (by kernel_rfl) (by kernel_rfl) ?_
        repeat ((conv => whnf); first | exact True.intro | refine ⟨.rfl, ?_⟩ | refine ⟨.any, ?_⟩ | refine ⟨.nil, ?_⟩ | refine ⟨.int (by first | rfl | omega | (simp only [wrs]; omega)), ?_⟩ | refine ⟨.int (lastI_s hl (by omega)), ?_⟩ | refine ⟨.tv (by rw [lastI_s hl (by omega), with_ins hws (slotN_way _ _) hfree]), ?_⟩)
      · skip
        repeat (first | exact LeVs.nil | ((conv => whnf); first | exact True.intro | exact .none | exact .ext | exact .row rfl | refine .cells ?_ | refine ⟨_, _, rfl, .rfl, ?_⟩ | refine ⟨_, _, rfl, .any, ?_⟩ | refine ⟨_, _, rfl, .nil, ?_⟩ | refine ⟨_, _, rfl, .int (by first | rfl | omega | (simp only [wrs]; omega)), ?_⟩ | refine ⟨_, _, rfl, .int (lastI_s hl (by omega)), ?_⟩ | refine ⟨_, _, rfl, .tv (by rw [lastI_s hl (by omega), with_ins hws (slotN_way _ _) hfree]), ?_⟩ | refine ⟨?_, ?_⟩))
        done
      · skip
        exact LeFr.same (by kernel_rfl)
    · skip
      rintro ⟨k, s, l⟩ ⟨hkm, hsk, hws, hl⟩
      have hs80 := hws.n
      conv => whnf
      refine bS (fun hc8 => ?_) (fun hc8 => ?_)
      · skip
        try simp only [bls] at hc8
        conv => whnf
        refine IdxG.map (l := ms) _ rfl (by first | omega | (simp only [List.length_map] at *; omega)) ?_; intro q1 hq1 hnq
        conv => whnf
        refine ⟨rfl, ?_⟩
        conv => whnf
        refine .ct ?_
        conv => whnf
        refine CallG.mk (rpk_X _ _ _ _) rfl ?_
        conv => whnf
        refine bS (fun hc9 => ?_) (fun hc9 => ?_)
        · skip
          try simp only [bls] at hc9
          conv => whnf
          refine bT (by assumption) ?_
          conv => whnf
          refine bT (by assumption) ?_
          conv => whnf
          refine bT (by assumption) ?_
          conv => whnf
          refine bT (by assumption) ?_
          conv => whnf
          refine .ct ?_
          conv => whnf
          refine CallG.mk (deaf_Z n s l _ _ (by omega)) rfl ?_
          conv => whnf
          refine bT (by assumption) ?_
          conv => whnf
          refine bT (by assumption) ?_
          conv => whnf
          refine bS (fun hc10 => ?_) (fun hc10 => ?_)
          · skip
            try simp only [bls] at hc10
            conv => whnf
            refine bT (by simp only [bls]; assumption) ?_
            conv => whnf
            refine .ct ?_
            conv => whnf
            refine CallG.mk (full_Z n s l) rfl ?_
            conv => whnf
            refine bT (by simp only [bls]; assumption) ?_
            conv => whnf
            refine bT (by simp only [bls]; assumption) ?_
            conv => whnf
            refine bS (fun hc11 => ?_) (fun hc11 => ?_)
            · skip
              try simp only [bls] at hc11
              conv => whnf
              refine .inl ?_
              conv => whnf
              refine InlG.mk (by kernel_rfl) Try.func36 rfl (Nat.le_of_ble_eq_true rfl) (XT.of tabX_ok ?_)
              conv => whnf
              refine XT.tidy ?_
              conv => whnf
              refine XT.loop tabX_ok (Y := Nat) [5, 6, 7, 8, 9, 10, 11, 12, 13, 14, 15, 16, 17, 18, 19, 20, 21, 22, 23] (fun i => [(7, .p (.v (.int .i64 ((i : Int)))) (nlv _))]) (fun i => [(13, .cells 25 [.p (.sl true (s.map (slC true))) (nl_sl _ _).sl, .p (.v (.int .i64 (lastI l i))) (nlv _), .p (.sl true (n.d.map dfC)) (nl_df _).sl])]) (fun i => i ≤ 80 ∧ ∀ j, j < i → hasS s (slotN l j) = true) (fun i => 80 - i) 0 ⟨by omega, fun j hj => by omega⟩ ?_ ?_
              · skip
                refine ⟨?_, ?_, ?_⟩
                · skip
                  refine leEnv_app (by kernel_rfl) (by kernel_rfl) ?_
                  repeat ((conv => whnf); first | exact True.intro | refine ⟨.rfl, ?_⟩ | refine ⟨.any, ?_⟩ | refine ⟨.nil, ?_⟩ | refine ⟨.int (by first | rfl | omega | (simp only [wrs]; omega)), ?_⟩ | refine ⟨.int (lastI_s hl (by omega)), ?_⟩ | refine ⟨.int (lastI_s hl (by omega)).symm, ?_⟩)
                · skip
                  repeat (first | exact LeVs.nil | ((conv => whnf); first | exact True.intro | exact .none | exact .ext | exact .row rfl | refine .cells ?_ | refine ⟨_, _, rfl, .rfl, ?_⟩ | refine ⟨_, _, rfl, .any, ?_⟩ | refine ⟨_, _, rfl, .nil, ?_⟩ | refine ⟨_, _, rfl, .int (by first | rfl | omega | (simp only [wrs]; omega)), ?_⟩ | refine ⟨_, _, rfl, .int (lastI_s hl (by omega)), ?_⟩ | refine ⟨_, _, rfl, .int (lastI_s hl (by omega)).symm, ?_⟩ | refine ⟨?_, ?_⟩))
                  done
                · skip
                  exact LeFr.same (by kernel_rfl)
              · skip
                rintro i ⟨hi, h2⟩
                rcases Nat.lt_or_ge i 80 with hi8 | hi8
                · skip
                  conv => whnf
                  refine bT (decide_eq_true (by omega)) ?_
                  conv => whnf
                  refine .inl ?_
                  conv => whnf
                  refine InlG.mk (by kernel_rfl) Try.func60 rfl (Nat.le_of_ble_eq_true rfl) (XT.of tabX_ok ?_)
                  conv => whnf
                  refine XT.tidy ?_
                  conv => whnf
                  refine XT.loop tabX_ok (Y := Nat) [5, 7, 11, 12, 13, 14, 15, 16, 17, 18, 19, 20, 21] (fun qc1 => [(11, .p (.v (.int .i64 ((qc1 : Int)))) (nlv _))]) (fun qc1 => []) (fun qc1 => qc1 ≤ s.length ∧ noCar s ((IntKind.i64.wrap (lastI l i + 1)).tmod 80) qc1) (fun qc1 => s.length - qc1) 0 ⟨Nat.zero_le _, noCar_0 _ _⟩ ?_ ?_
                  · skip
                    refine ⟨?_, ?_, ?_⟩
                    · skip
                      refine leEnv_app (by kernel_rfl) (by kernel_rfl) ?_
                      repeat ((conv => whnf); first | exact True.intro | refine ⟨.rfl, ?_⟩ | refine ⟨.any, ?_⟩ | refine ⟨.nil, ?_⟩ | refine ⟨.int (by first | rfl | omega | (simp only [wrs]; omega)), ?_⟩)
                    · skip
                      repeat (first | exact LeVs.nil | ((conv => whnf); first | exact True.intro | exact .none | exact .ext | exact .row rfl | refine .cells ?_ | refine ⟨_, _, rfl, .rfl, ?_⟩ | refine ⟨_, _, rfl, .any, ?_⟩ | refine ⟨_, _, rfl, .nil, ?_⟩ | refine ⟨_, _, rfl, .int (by first | rfl | omega | (simp only [wrs]; omega)), ?_⟩ | refine ⟨?_, ?_⟩))
                      done
                    · skip
                      exact LeFr.same (by kernel_rfl)
                  · skip
                    rintro qc1 ⟨hqc1, hnc⟩
                    conv => whnf
                    refine bS (fun hc12 => ?_) (fun hc12 => ?_)
                    · skip
                      try simp only [bls] at hc12
                      conv => whnf
                      refine IdxG.map (l := s) _ rfl (by first | omega | (simp only [List.length_map] at *; omega)) ?_; intro y hy hny
                      conv => whnf
                      refine ⟨rfl, ?_⟩
                      conv => whnf
                      refine bS (fun hc13 => ?_) (fun hc13 => ?_)
                      · skip
                        try simp only [bls] at hc13
                        try simp (disch := omega) only [wz, Int.reduceAdd, Int.reduceSub, Int.reduceMul, Int.reduceNeg, Int.zero_add, Int.add_zero, Int.sub_zero, Int.sub_self] at hc13
                        conv => whnf
                        refine ⟨.inr rfl, ?_⟩
                        conv => whnf
                        refine ⟨(i + 1), ⟨by omega, fun j hj => by rcases Nat.lt_or_ge j i with h8 | h8; exact h2 j h8; obtain rfl : j = i := (by omega); rw [← lastI_s hl (by omega)]; exact (car_t hnc hy (by assumption)).1⟩, (by omega), ?_⟩
                        refine ⟨?_, ?_, ?_⟩
                        · skip
                          refine leEnv_app (by kernel_rfl) (by kernel_rfl) ?_
                          repeat ((conv => whnf); first | exact True.intro | refine ⟨.rfl, ?_⟩ | refine ⟨.any, ?_⟩ | refine ⟨.nil, ?_⟩ | refine ⟨.int (by first | rfl | omega | (simp only [wrs]; omega)), ?_⟩ | refine ⟨.int (lastI_s hl (by omega)), ?_⟩ | refine ⟨.int (lastI_s hl (by omega)).symm, ?_⟩)
                        · skip
                          repeat (first | exact LeVs.nil | ((conv => whnf); first | exact True.intro | exact .none | exact .ext | exact .row rfl | refine .cells ?_ | refine ⟨_, _, rfl, .rfl, ?_⟩ | refine ⟨_, _, rfl, .any, ?_⟩ | refine ⟨_, _, rfl, .nil, ?_⟩ | refine ⟨_, _, rfl, .int (by first | rfl | omega | (simp only [wrs]; omega)), ?_⟩ | refine ⟨_, _, rfl, .int (lastI_s hl (by omega)), ?_⟩ | refine ⟨_, _, rfl, .int (lastI_s hl (by omega)).symm, ?_⟩ | refine ⟨?_, ?_⟩))
                          done
                        · skip
                          exact LeFr.same (by kernel_rfl)
                      · skip
                        try simp only [bls] at hc13
                        try simp (disch := omega) only [wz, Int.reduceAdd, Int.reduceSub, Int.reduceMul, Int.reduceNeg, Int.zero_add, Int.add_zero, Int.sub_zero, Int.sub_self] at hc13
                        conv => whnf
                        refine ⟨(qc1 + 1), ⟨by omega, noCar_s hnc hy (by assumption)⟩, (by omega), ?_⟩
                        refine ⟨?_, ?_, ?_⟩
                        · skip
                          refine leEnv_app (by kernel_rfl) (by kernel_rfl) ?_
                          repeat ((conv => whnf); first | exact True.intro | refine ⟨.rfl, ?_⟩ | refine ⟨.any, ?_⟩ | refine ⟨.nil, ?_⟩ | refine ⟨.int (by first | rfl | omega | (simp only [wrs]; omega)), ?_⟩)
                        · skip
                          repeat (first | exact LeVs.nil | ((conv => whnf); first | exact True.intro | exact .none | exact .ext | exact .row rfl | refine .cells ?_ | refine ⟨_, _, rfl, .rfl, ?_⟩ | refine ⟨_, _, rfl, .any, ?_⟩ | refine ⟨_, _, rfl, .nil, ?_⟩ | refine ⟨_, _, rfl, .int (by first | rfl | omega | (simp only [wrs]; omega)), ?_⟩ | refine ⟨?_, ?_⟩))
                          done
                        · skip
                          exact LeFr.same (by kernel_rfl)
                    · skip
                      try simp only [bls] at hc12
                      conv => whnf
                      have hfree : hasS s (slotN l i) = false := by rw [← lastI_s hl (by omega)]; exact car_f hnc (by omega)
                      conv => whnf
                      refine ⟨.inr rfl, ?_⟩
                      conv => whnf
                      refine .inl ?_
                      conv => whnf
                      refine InlG.mk (by kernel_rfl) Try.func34 rfl (Nat.le_of_ble_eq_true rfl) (XT.of tabX_ok ?_)
                      conv => whnf
                      refine XT.nilr 9 65 4 rfl rfl ?_
                      conv => whnf
                      refine XT.tidy ?_
                      conv => whnf
                      refine XT.loop tabX_ok (Y := Nat) [9, 10, 11, 12, 13, 14, 15, 16, 17, 18, 19, 20, 21, 22, 23, 24, 25, 26, 27, 28, 29, 30, 31, 32, 33, 34] (fun a => [(13, .p (.v (.int .i64 ((a : Int)))) (nlv _)), (9, .row 22)]) (fun a => [(22, .row 65 4 ((withR s ((IntKind.i64.wrap (lastI l i + 1)).tmod 80) ⟨0, fr, q1.1, q1.2⟩ true a).map (slC true)) (nl_sl _ _))]) (fun a => a ≤ 80) (fun a => 80 - a) 0 (Nat.zero_le _) ?_ ?_
                      · skip
                        refine ⟨?_, ?_, ?_⟩
                        · skip
                          refine leEnv_app (by kernel_rfl) (by kernel_rfl) ?_
                          repeat ((conv => whnf); first | exact True.intro | refine ⟨.rfl, ?_⟩ | refine ⟨.any, ?_⟩ | refine ⟨.nil, ?_⟩ | refine ⟨.int (by first | rfl | omega | (simp only [wrs]; omega)), ?_⟩)
                        · skip
                          repeat (first | exact LeVs.nil | ((conv => whnf); first | exact True.intro | exact .none | exact .ext | exact .row rfl | refine .cells ?_ | refine ⟨_, _, rfl, .rfl, ?_⟩ | refine ⟨_, _, rfl, .any, ?_⟩ | refine ⟨_, _, rfl, .nil, ?_⟩ | refine ⟨_, _, rfl, .int (by first | rfl | omega | (simp only [wrs]; omega)), ?_⟩ | refine ⟨?_, ?_⟩))
                          done
                        · skip
                          exact LeFr.same (by kernel_rfl)
                      · skip
                        rintro a ha
                        rcases Nat.lt_or_ge a 80 with ha8 | ha8
                        · skip
                          conv => whnf
                          refine bT (decide_eq_true (by omega)) ?_
                          conv => whnf
                          refine .inl ?_
                          conv => whnf
                          refine InlG.mk (by kernel_rfl) Try.func60 rfl (Nat.le_of_ble_eq_true rfl) (XT.of tabX_ok ?_)
                          conv => whnf
                          refine XT.tidy ?_
                          conv => whnf
                          refine XT.loop tabX_ok (Y := Nat) [5, 7, 11, 12, 13, 14, 15, 16, 17, 18, 19, 20, 21] (fun qc2 => [(11, .p (.v (.int .i64 ((qc2 : Int)))) (nlv _))]) (fun qc2 => []) (fun qc2 => qc2 ≤ s.length ∧ noCar s ((↑a : Int)) qc2) (fun qc2 => s.length - qc2) 0 ⟨Nat.zero_le _, noCar_0 _ _⟩ ?_ ?_
                          · skip
                            refine ⟨?_, ?_, ?_⟩
                            · skip
                              refine leEnv_app (by kernel_rfl) (by kernel_rfl) ?_
                              repeat ((conv => whnf); first | exact True.intro | refine ⟨.rfl, ?_⟩ | refine ⟨.any, ?_⟩ | refine ⟨.nil, ?_⟩ | refine ⟨.int (by first | rfl | omega | (simp only [wrs]; omega)), ?_⟩)
                            · skip
                              repeat (first | exact LeVs.nil | ((conv => whnf); first | exact True.intro | exact .none | exact .ext | exact .row rfl | refine .cells ?_ | refine ⟨_, _, rfl, .rfl, ?_⟩ | refine ⟨_, _, rfl, .any, ?_⟩ | refine ⟨_, _, rfl, .nil, ?_⟩ | refine ⟨_, _, rfl, .int (by first | rfl | omega | (simp only [wrs]; omega)), ?_⟩ | refine ⟨?_, ?_⟩))
                              done
                            · skip
                              exact LeFr.same (by kernel_rfl)
                          · skip
                            rintro qc2 ⟨hqc2, hnc⟩
                            conv => whnf
                            refine bS (fun hc14 => ?_) (fun hc14 => ?_)
                            · skip
                              try simp only [bls] at hc14
                              conv => whnf
                              refine IdxG.map (l := s) _ rfl (by first | omega | (simp only [List.length_map] at *; omega)) ?_; intro y hy hny
                              conv => whnf
                              refine ⟨rfl, ?_⟩
                              conv => whnf
                              refine bS (fun hc15 => ?_) (fun hc15 => ?_)
                              · skip
                                try simp only [bls] at hc15
                                conv => whnf
                                refine ⟨.inr rfl, ?_⟩
                                conv => whnf
                                refine bS (fun hc16 => ?_) (fun hc16 => ?_)
                                · skip
                                  try simp only [bls] at hc16
                                  try simp (disch := omega) only [wz, Int.reduceAdd, Int.reduceSub, Int.reduceMul, Int.reduceNeg, Int.zero_add, Int.add_zero, Int.sub_zero, Int.sub_self] at hc16
                                  conv => whnf
                                  refine ⟨ApOk.lit rfl, ?_⟩
                                  conv => whnf
                                  refine ⟨by have h8 := withR_len s ((IntKind.i64.wrap (lastI l i + 1)).tmod 80) ⟨0, fr, q1.1, q1.2⟩ true a; simp only [List.length_map, List.length_cons, List.length_nil]; omega, ?_⟩
                                  conv => whnf
                                  refine ⟨(a + 1), (by omega), (by omega), ?_⟩
                                  refine ⟨?_, ?_, ?_⟩
                                  · skip
                                    refine leEnv_app (by kernel_rfl) (by kernel_rfl) ?_
                                    repeat ((conv => whnf); first | exact True.intro | refine ⟨.rfl, ?_⟩ | refine ⟨.any, ?_⟩ | refine ⟨.nil, ?_⟩ | refine ⟨.int (by first | rfl | omega | (simp only [wrs]; omega)), ?_⟩)
                                  · skip
                                    repeat (first | exact LeVs.nil | ((conv => whnf); first | exact True.intro | exact .none | exact .ext | exact .row rfl | exact .row ((by rw [withR_t (by omega) rfl, List.map_append]; rfl : _ = _)) | refine .cells ?_ | refine ⟨_, _, rfl, .rfl, ?_⟩ | refine ⟨_, _, rfl, .any, ?_⟩ | refine ⟨_, _, rfl, .nil, ?_⟩ | refine ⟨_, _, rfl, .int (by first | rfl | omega | (simp only [wrs]; omega)), ?_⟩ | refine ⟨?_, ?_⟩))
                                    done
                                  · skip
                                    exact LeFr.same (by kernel_rfl)
                                · skip
                                  try simp only [bls] at hc16
                                  try simp (disch := omega) only [wz, Int.reduceAdd, Int.reduceSub, Int.reduceMul, Int.reduceNeg, Int.zero_add, Int.add_zero, Int.sub_zero, Int.sub_self] at hc16
                                  conv => whnf
                                  refine ⟨ApOk.lit rfl, ?_⟩
                                  conv => whnf
                                  refine ⟨by have h8 := withR_len s ((IntKind.i64.wrap (lastI l i + 1)).tmod 80) ⟨0, fr, q1.1, q1.2⟩ true a; simp only [List.length_map, List.length_cons, List.length_nil]; omega, ?_⟩
                                  conv => whnf
                                  refine ⟨(a + 1), (by omega), (by omega), ?_⟩
                                  refine ⟨?_, ?_, ?_⟩
                                  · skip
                                    refine leEnv_app (by kernel_rfl) (by kernel_rfl) ?_
                                    repeat ((conv => whnf); first | exact True.intro | refine ⟨.rfl, ?_⟩ | refine ⟨.any, ?_⟩ | refine ⟨.nil, ?_⟩ | refine ⟨.int (by first | rfl | omega | (simp only [wrs]; omega)), ?_⟩)
                                  · skip
                                    repeat (first | exact LeVs.nil | ((conv => whnf); first | exact True.intro | exact .none | exact .ext | exact .row rfl | exact .row ((by rw [withR_c (by omega) hnc hy (by omega), List.map_append]; rfl : _ = _)) | refine .cells ?_ | refine ⟨_, _, rfl, .rfl, ?_⟩ | refine ⟨_, _, rfl, .any, ?_⟩ | refine ⟨_, _, rfl, .nil, ?_⟩ | refine ⟨_, _, rfl, .int (by first | rfl | omega | (simp only [wrs]; omega)), ?_⟩ | refine ⟨?_, ?_⟩))
                                    done
                                  · skip
                                    exact LeFr.same (by kernel_rfl)
                              · skip
                                try simp only [bls] at hc15
                                conv => whnf
                                refine ⟨(qc2 + 1), ⟨by omega, noCar_s hnc hy (by assumption)⟩, (by omega), ?_⟩
                                refine ⟨?_, ?_, ?_⟩
                                · skip
                                  refine leEnv_app (by kernel_rfl) (by kernel_rfl) ?_
                                  repeat ((conv => whnf); first | exact True.intro | refine ⟨.rfl, ?_⟩ | refine ⟨.any, ?_⟩ | refine ⟨.nil, ?_⟩ | refine ⟨.int (by first | rfl | omega | (simp only [wrs]; omega)), ?_⟩)
                                · skip
                                  repeat (first | exact LeVs.nil | ((conv => whnf); first | exact True.intro | exact .none | exact .ext | exact .row rfl | refine .cells ?_ | refine ⟨_, _, rfl, .rfl, ?_⟩ | refine ⟨_, _, rfl, .any, ?_⟩ | refine ⟨_, _, rfl, .nil, ?_⟩ | refine ⟨_, _, rfl, .int (by first | rfl | omega | (simp only [wrs]; omega)), ?_⟩ | refine ⟨?_, ?_⟩))
                                  done
                                · skip
                                  exact LeFr.same (by kernel_rfl)
                            · skip
                              try simp only [bls] at hc14
                              conv => whnf
                              refine ⟨.inr rfl, ?_⟩
                              conv => whnf
                              refine bS (fun hc17 => ?_) (fun hc17 => ?_)
                              · skip
                                try simp only [bls] at hc17
                                try simp (disch := omega) only [wz, Int.reduceAdd, Int.reduceSub, Int.reduceMul, Int.reduceNeg, Int.zero_add, Int.add_zero, Int.sub_zero, Int.sub_self] at hc17
                                conv => whnf
                                refine ⟨ApOk.lit rfl, ?_⟩
                                conv => whnf
                                refine ⟨by have h8 := withR_len s ((IntKind.i64.wrap (lastI l i + 1)).tmod 80) ⟨0, fr, q1.1, q1.2⟩ true a; simp only [List.length_map, List.length_cons, List.length_nil]; omega, ?_⟩
                                conv => whnf
                                refine ⟨(a + 1), (by omega), (by omega), ?_⟩
                                refine ⟨?_, ?_, ?_⟩
                                · skip
                                  refine leEnv_app (by kernel_rfl) (by kernel_rfl) ?_
                                  repeat ((conv => whnf); first | exact True.intro | refine ⟨.rfl, ?_⟩ | refine ⟨.any, ?_⟩ | refine ⟨.nil, ?_⟩ | refine ⟨.int (by first | rfl | omega | (simp only [wrs]; omega)), ?_⟩)
                                · skip
                                  repeat (first | exact LeVs.nil | ((conv => whnf); first | exact True.intro | exact .none | exact .ext | exact .row rfl | exact .row ((by rw [withR_t (by omega) rfl, List.map_append]; rfl : _ = _)) | refine .cells ?_ | refine ⟨_, _, rfl, .rfl, ?_⟩ | refine ⟨_, _, rfl, .any, ?_⟩ | refine ⟨_, _, rfl, .nil, ?_⟩ | refine ⟨_, _, rfl, .int (by first | rfl | omega | (simp only [wrs]; omega)), ?_⟩ | refine ⟨?_, ?_⟩))
                                  done
                                · skip
                                  exact LeFr.same (by kernel_rfl)
                              · skip
                                try simp only [bls] at hc17
                                try simp (disch := omega) only [wz, Int.reduceAdd, Int.reduceSub, Int.reduceMul, Int.reduceNeg, Int.zero_add, Int.add_zero, Int.sub_zero, Int.sub_self] at hc17
                                conv => whnf
                                refine ⟨(a + 1), (by omega), (by omega), ?_⟩
                                refine ⟨?_, ?_, ?_⟩
                                · skip
                                  refine leEnv_app (by kernel_rfl) (by kernel_rfl) ?_
                                  repeat ((conv => whnf); first | exact True.intro | refine ⟨.rfl, ?_⟩ | refine ⟨.any, ?_⟩ | refine ⟨.nil, ?_⟩ | refine ⟨.int (by first | rfl | omega | (simp only [wrs]; omega)), ?_⟩)
                                · skip
                                  repeat (first | exact LeVs.nil | ((conv => whnf); first | exact True.intro | exact .none | exact .ext | exact .row rfl | exact .row ((by rw [withR_f (by omega) hnc (by omega)] : _ = _)) | refine .cells ?_ | refine ⟨_, _, rfl, .rfl, ?_⟩ | refine ⟨_, _, rfl, .any, ?_⟩ | refine ⟨_, _, rfl, .nil, ?_⟩ | refine ⟨_, _, rfl, .int (by first | rfl | omega | (simp only [wrs]; omega)), ?_⟩ | refine ⟨?_, ?_⟩))
                                  done
                                · skip
                                  exact LeFr.same (by kernel_rfl)
                        · skip
                          obtain rfl : a = 80 := by omega
                          conv => whnf
                          refine ⟨.inr rfl, ?_⟩
                          conv => whnf
                          refine ⟨.inr rfl, ?_⟩
                          conv => whnf
                          refine ⟨(k + 1, insS s ⟨slotN l i, fr, q1.1, q1.2⟩, slotN l i), ⟨by omega, send_t hsk hq1 (by simp_all; done) (by simp_all; done) (by omega) hfree h2, insS_way hws (slotN_way l i) hfree, slotN_way l i⟩, (by show ms.length - (k + 1) < ms.length - k; omega), [22], ?_⟩
                          conv => whnf
                          show LeX _ _ _ _ _ _
                          refine ⟨?_, ?_, ?_⟩
                          · skip
                            refine leEnv_app (by kernel_rfl) (by kernel_rfl) ?_
                            repeat ((conv => whnf); first | exact True.intro | refine ⟨.rfl, ?_⟩ | refine ⟨.any, ?_⟩ | refine ⟨.nil, ?_⟩ | refine ⟨.int (by first | rfl | omega | (simp only [wrs]; omega)), ?_⟩ | refine ⟨.int (lastI_s hl (by omega)), ?_⟩ | refine ⟨.tv (by rw [lastI_s hl (by omega), with_ins hws (slotN_way _ _) hfree]), ?_⟩)
                          · skip
                            repeat (first | exact LeVs.nil | ((conv => whnf); first | exact True.intro | exact .none | exact .ext | exact .row rfl | refine .cells ?_ | refine ⟨_, _, rfl, .rfl, ?_⟩ | refine ⟨_, _, rfl, .any, ?_⟩ | refine ⟨_, _, rfl, .nil, ?_⟩ | refine ⟨_, _, rfl, .int (by first | rfl | omega | (simp only [wrs]; omega)), ?_⟩ | refine ⟨_, _, rfl, .int (lastI_s hl (by omega)), ?_⟩ | refine ⟨_, _, rfl, .tv (by rw [lastI_s hl (by omega), with_ins hws (slotN_way _ _) hfree]), ?_⟩ | refine ⟨?_, ?_⟩))
                            done
                          · skip
                            exact LeFr.same (by kernel_rfl)
                · skip
                  exact absurd (all_full hws fun j hj => h2 j (by omega)) (by simp_all; done)
            · skip
              try simp only [bls] at hc11
              conv => whnf
              refine ⟨(k + 1, s, l), ⟨by omega, send_f hsk hq1 (fun j hj => full_all hws (by simp_all; done) (slotN_way _ _)), hws, hl⟩, (by show ms.length - (k + 1) < ms.length - k; omega), [], ?_⟩
              refine ⟨?_, ?_, ?_⟩
              · skip
                refine leEnv_app (by kernel_rfl) (by kernel_rfl) ?_
                repeat ((conv => whnf); first | exact True.intro | refine ⟨.rfl, ?_⟩ | refine ⟨.any, ?_⟩ | refine ⟨.nil, ?_⟩ | refine ⟨.int (by first | rfl | omega | (simp only [wrs]; omega)), ?_⟩ | refine ⟨.int (lastI_s hl (by omega)), ?_⟩ | refine ⟨.tv (by rw [lastI_s hl (by omega), with_ins hws (slotN_way _ _) hfree]), ?_⟩)
              · skip
                repeat (first | exact LeVs.nil | ((conv => whnf); first | exact True.intro | exact .none | exact .ext | exact .row rfl | refine .cells ?_ | refine ⟨_, _, rfl, .rfl, ?_⟩ | refine ⟨_, _, rfl, .any, ?_⟩ | refine ⟨_, _, rfl, .nil, ?_⟩ | refine ⟨_, _, rfl, .int (by first | rfl | omega | (simp only [wrs]; omega)), ?_⟩ | refine ⟨_, _, rfl, .int (lastI_s hl (by omega)), ?_⟩ | refine ⟨_, _, rfl, .tv (by rw [lastI_s hl (by omega), with_ins hws (slotN_way _ _) hfree]), ?_⟩ | refine ⟨?_, ?_⟩))
                done
              · skip
                exact LeFr.same (by kernel_rfl)
          · skip
            try simp only [bls] at hc10
            conv => whnf
            refine bF (by simp only [bls]; assumption) ?_
            conv => whnf
            refine bF (by simp only [bls]; assumption) ?_
            conv => whnf
            refine bF (by simp only [bls]; assumption) ?_
            conv => whnf
            refine ⟨(k + 1, s, l), ⟨by omega, send_no2 hsk hq1 (by simp_all; done), hws, hl⟩, (by show ms.length - (k + 1) < ms.length - k; omega), [], ?_⟩
            refine ⟨?_, ?_, ?_⟩
            · skip
              refine leEnv_app (by kernel_rfl) (by kernel_rfl) ?_
              repeat ((conv => whnf); first | exact True.intro | refine ⟨.rfl, ?_⟩ | refine ⟨.any, ?_⟩ | refine ⟨.nil, ?_⟩ | refine ⟨.int (by first | rfl | omega | (simp only [wrs]; omega)), ?_⟩ | refine ⟨.int (lastI_s hl (by omega)), ?_⟩ | refine ⟨.tv (by rw [lastI_s hl (by omega), with_ins hws (slotN_way _ _) hfree]), ?_⟩)
            · skip
              repeat (first | exact LeVs.nil | ((conv => whnf); first | exact True.intro | exact .none | exact .ext | exact .row rfl | refine .cells ?_ | refine ⟨_, _, rfl, .rfl, ?_⟩ | refine ⟨_, _, rfl, .any, ?_⟩ | refine ⟨_, _, rfl, .nil, ?_⟩ | refine ⟨_, _, rfl, .int (by first | rfl | omega | (simp only [wrs]; omega)), ?_⟩ | refine ⟨_, _, rfl, .int (lastI_s hl (by omega)), ?_⟩ | refine ⟨_, _, rfl, .tv (by rw [lastI_s hl (by omega), with_ins hws (slotN_way _ _) hfree]), ?_⟩ | refine ⟨?_, ?_⟩))
              done
            · skip
              exact LeFr.same (by kernel_rfl)
        · skip
          try simp only [bls] at hc9
          conv => whnf
          refine bF (by assumption) ?_
          conv => whnf
          refine bF (by assumption) ?_
          conv => whnf
          refine bF (by assumption) ?_
          conv => whnf
          refine bF (by assumption) ?_
          conv => whnf
          refine bF (by assumption) ?_
          conv => whnf
          refine bF (by assumption) ?_
          conv => whnf
          refine ⟨(k + 1, s, l), ⟨by omega, send_no1 hsk hq1 (by simp_all; done), hws, hl⟩, (by show ms.length - (k + 1) < ms.length - k; omega), [], ?_⟩
          refine ⟨?_, ?_, ?_⟩
          · skip
            refine leEnv_app (by kernel_rfl) (by kernel_rfl) ?_
            repeat ((conv => whnf); first | exact True.intro | refine ⟨.rfl, ?_⟩ | refine ⟨.any, ?_⟩ | refine ⟨.nil, ?_⟩ | refine ⟨.int (by first | rfl | omega | (simp only [wrs]; omega)), ?_⟩ | refine ⟨.int (lastI_s hl (by omega)), ?_⟩ | refine ⟨.tv (by rw [lastI_s hl (by omega), with_ins hws (slotN_way _ _) hfree]), ?_⟩)
          · skip
            repeat (first | exact LeVs.nil | ((conv => whnf); first | exact True.intro | exact .none | exact .ext | exact .row rfl | refine .cells ?_ | refine ⟨_, _, rfl, .rfl, ?_⟩ | refine ⟨_, _, rfl, .any, ?_⟩ | refine ⟨_, _, rfl, .nil, ?_⟩ | refine ⟨_, _, rfl, .int (by first | rfl | omega | (simp only [wrs]; omega)), ?_⟩ | refine ⟨_, _, rfl, .int (lastI_s hl (by omega)), ?_⟩ | refine ⟨_, _, rfl, .tv (by rw [lastI_s hl (by omega), with_ins hws (slotN_way _ _) hfree]), ?_⟩ | refine ⟨?_, ?_⟩))
            done
          · skip
            exact LeFr.same (by kernel_rfl)
      · skip
        try simp only [bls] at hc8
        conv => whnf
        have hf2 : (s3, l3) = (s, l) := by rw [← h3, ← hsk, List.take_of_length_le (by omega)]
        obtain ⟨rfl, rfl⟩ := Prod.mk.inj hf2
        conv => whnf
        refine ⟨.inr rfl, ?_⟩
        conv => whnf
        refine RegG.par 31 (by kernel_rfl) ?_
        conv => whnf
        refine CallG.mk (same6_X true true true true true true ⟨s3, l3, n.d⟩ ⟨s3, l3, n.d⟩ hz3 hz3) rfl ?_
        conv => whnf
        refine bF (by simp [List.length_map, List.length_append, List.length_take, List.length_drop, List.length_cons, List.length_nil, slC, dfC, netX, net0, List.map_nil, mix_len, pkX, slX, sl0, delS]; done) ?_
        conv => whnf
        refine bF (by simp [List.length_map, List.length_append, List.length_take, List.length_drop, List.length_cons, List.length_nil, slC, dfC, netX, net0, List.map_nil, mix_len, pkX, slX, sl0, delS]; done) ?_
        conv => whnf
        refine bF (by simp [List.length_map, List.length_append, List.length_take, List.length_drop, List.length_cons, List.length_nil, slC, dfC, netX, net0, List.map_nil, mix_len, pkX, slX, sl0, delS]; done) ?_
        conv => whnf
        refine CallG.mk ((few_X _ _ _ y0 hy).eq (by rw [hm2])) rfl ?_
        conv => whnf
        refine bF (by simp [List.length_map, List.length_append, List.length_take, List.length_drop, List.length_cons, List.length_nil, slC, dfC, netX, net0, List.map_nil, mix_len, pkX, slX, sl0, delS]; done) ?_
        conv => whnf
        refine CallG.mk (same_X true true true true true true n m hsz hsz2) rfl ?_
        conv => whnf
        refine bF (by simp [List.length_map, List.length_append, List.length_take, List.length_drop, List.length_cons, List.length_nil, slC, dfC, netX, net0, List.map_nil, mix_len, pkX, slX, sl0, delS]; done) ?_
        conv => whnf
        refine bF (by simp [List.length_map, List.length_append, List.length_take, List.length_drop, List.length_cons, List.length_nil, slC, dfC, netX, net0, List.map_nil, mix_len, pkX, slX, sl0, delS]; done) ?_
        conv => whnf
        refine bF (by simp [List.length_map, List.length_append, List.length_take, List.length_drop, List.length_cons, List.length_nil, slC, dfC, netX, net0, List.map_nil, mix_len, pkX, slX, sl0, delS]; done) ?_
        conv => whnf
        refine CallG.mk ((few_X _ _ _ y0 hy).eq (by rw [hm2])) rfl ?_
        conv => whnf
        refine bF (by simp [List.length_map, List.length_append, List.length_take, List.length_drop, List.length_cons, List.length_nil, slC, dfC, netX, net0, List.map_nil, mix_len, pkX, slX, sl0, delS]; done) ?_
        conv => whnf
        refine CallG.mk (same6_X true true true true true true n m hsz hsz2) rfl ?_
        conv => whnf
        refine bF (by simp [List.length_map, List.length_append, List.length_take, List.length_drop, List.length_cons, List.length_nil, slC, dfC, netX, net0, List.map_nil, mix_len, pkX, slX, sl0, delS]; done) ?_
        conv => whnf
        refine bF (by simp [List.length_map, List.length_append, List.length_take, List.length_drop, List.length_cons, List.length_nil, slC, dfC, netX, net0, List.map_nil, mix_len, pkX, slX, sl0, delS]; done) ?_
        conv => whnf
        refine bF (by simp [List.length_map, List.length_append, List.length_take, List.length_drop, List.length_cons, List.length_nil, slC, dfC, netX, net0, List.map_nil, mix_len, pkX, slX, sl0, delS]; done) ?_
        conv => whnf
        refine bF (by simp [List.length_map, List.length_append, List.length_take, List.length_drop, List.length_cons, List.length_nil, slC, dfC, netX, net0, List.map_nil, mix_len, pkX, slX, sl0, delS]; done) ?_
        conv => whnf
        refine bF (by simp [List.length_map, List.length_append, List.length_take, List.length_drop, List.length_cons, List.length_nil, slC, dfC, netX, net0, List.map_nil, mix_len, pkX, slX, sl0, delS]; done) ?_
        conv => whnf
        refine CallG.mk (same_X true true true true true true n n hsz hsz) rfl ?_
        conv => whnf
        refine bF (by simp [List.length_map, List.length_append, List.length_take, List.length_drop, List.length_cons, List.length_nil, slC, dfC, netX, net0, List.map_nil, mix_len, pkX, slX, sl0, delS]; done) ?_
        conv => whnf
        refine bF (by simp [List.length_map, List.length_append, List.length_take, List.length_drop, List.length_cons, List.length_nil, slC, dfC, netX, net0, List.map_nil, mix_len, pkX, slX, sl0, delS]; done) ?_
        conv => whnf
        refine bF (by simp [List.length_map, List.length_append, List.length_take, List.length_drop, List.length_cons, List.length_nil, slC, dfC, netX, net0, List.map_nil, mix_len, pkX, slX, sl0, delS]; done) ?_
        conv => whnf
        refine XT.zall [] [4, 5, 8] rfl (by intro d hd; cases hd) (by intro i hi; simp only [List.mem_cons, List.not_mem_nil, or_false] at hi; rcases hi with rfl | rfl | rfl <;> exact ⟨by simp [XV.den, XV.denL, Pu, PuL, pu_sl, pu_df], by simp [XV.den, XV.denL, Fr, FrL, fr_sl, fr_df], rfl⟩) ?_
        conv => whnf
        refine XT.unz 3 rfl ?_
        conv => whnf
        refine XT.pass tabX_ok ?_
        conv => whnf
        refine XT.pass tabX_ok ?_
        conv => whnf
        refine XT.loop tabX_ok (Y := Nat × List Msg) [0, 1, 2, 9, 17, 18, 22, 23, 24, 25, 28, 30, 33, 35, 37, 40, 41, 47, 49, 71, 76, 77, 78, 80, 81, 82, 87, 88, 92, 94, 95, 96, 97, 98, 99, 100, 101, 102, 103, 104, 105, 106, 107, 108, 109, 110, 111, 112] (fun (kq, q) => [(94, .p (.v (.int .i64 ((kq : Int)))) (nlv _)), (92, sdX q)]) (fun (kq, q) => []) (fun (kq, q) => kq ≤ ms.length ∧ ShD q ms) (fun (kq, q) => ms.length - kq) (0, ms) ⟨Nat.zero_le _, .refl _⟩ ?_ ?_
        · skip
          refine ⟨?_, ?_, ?_⟩
          · skip
            refine leEnv_app (by kernel_rfl) (by kernel_rfl) ?_
            repeat ((conv => whnf); first | exact True.intro | refine ⟨.rfl, ?_⟩ | refine ⟨.any, ?_⟩ | refine ⟨.nil, ?_⟩ | refine ⟨.int (by first | rfl | omega | (simp only [wrs]; omega)), ?_⟩)
          · skip
            repeat (first | exact LeVs.nil | ((conv => whnf); first | exact True.intro | exact .none | exact .ext | exact .row rfl | refine .cells ?_ | refine ⟨_, _, rfl, .rfl, ?_⟩ | refine ⟨_, _, rfl, .any, ?_⟩ | refine ⟨_, _, rfl, .nil, ?_⟩ | refine ⟨_, _, rfl, .int (by first | rfl | omega | (simp only [wrs]; omega)), ?_⟩ | refine ⟨?_, ?_⟩))
            done
          · skip
            exact LeFr.same (by kernel_rfl)
        · skip
          rintro ⟨kq, q⟩ ⟨hk, hq⟩
          have hql := hq.n
          have hqb := hq.le hmb
          conv => whnf
          refine bS (fun hc18 => ?_) (fun hc18 => ?_)
          · skip
            try simp only [bls] at hc18
            conv => whnf
            refine IdxG.map (l := q) _ rfl (by first | omega | (simp only [List.length_map] at *; omega)) ?_; intro q1 hq1 hnq; have hq1b := hqb q1 (List.mem_of_getElem? hq1)
            conv => whnf
            refine ⟨rfl, ?_⟩
            conv => whnf
            refine XT.loop tabX_ok (Y := Nat × List Msg × List Int) [18, 92, 96, 97, 99, 101, 102, 103, 104, 105, 106, 107, 108, 109, 110, 111] (fun (k2, q2, b2) => [(101, .p (.v (.int .i64 ((k2 : Int)))) (nlv _)), (92, sdX q2)]) (fun (k2, q2, b2) => [(12, .cells 52 (boxX q1.1 b2))]) (fun (k2, q2, b2) => k2 ≤ q1.2.length ∧ ShD q2 q ∧ b2.length = q1.2.length) (fun (k2, q2, b2) => q1.2.length - k2) (0, q, q1.2) ⟨Nat.zero_le _, .refl _, rfl⟩ ?_ ?_
            · skip
              refine ⟨?_, ?_, ?_⟩
              · skip
                refine leEnv_app (by kernel_rfl) (by kernel_rfl) ?_
                repeat ((conv => whnf); first | exact True.intro | refine ⟨.rfl, ?_⟩ | refine ⟨.any, ?_⟩ | refine ⟨.nil, ?_⟩ | refine ⟨.int (by first | rfl | omega | (simp only [wrs]; omega)), ?_⟩)
              · skip
                repeat (first | exact LeVs.nil | ((conv => whnf); first | exact True.intro | exact .none | exact .ext | exact .row rfl | refine .cells ?_ | refine ⟨_, _, rfl, .rfl, ?_⟩ | refine ⟨_, _, rfl, .any, ?_⟩ | refine ⟨_, _, rfl, .nil, ?_⟩ | refine ⟨_, _, rfl, .int (by first | rfl | omega | (simp only [wrs]; omega)), ?_⟩ | refine ⟨?_, ?_⟩))
                done
              · skip
                exact LeFr.same (by kernel_rfl)
            · skip
              rintro ⟨k2, q2, b2⟩ ⟨hk2, hq2, hb2⟩
              conv => whnf
              refine bS (fun hc19 => ?_) (fun hc19 => ?_)
              · skip
                try simp only [bls] at hc19
                conv => whnf
                refine XT.overW tabX_ok 6 [(12, fun z : List Msg × List Int => boxX q1.1 z.2)] [(92, fun z : List Msg × List Int => sdX z.1)] (fun z => ShD z.1 q2 ∧ z.2.length = b2.length) rfl ⟨rfl, rfl, rfl⟩ ⟨rfl, rfl, rfl⟩ (tT rfl) rfl (tT rfl) rfl (tT rfl) rfl rfl rfl ?_
                conv => whnf
                refine IdxG.map (l := b2) _ rfl (by first | omega | (simp only [List.length_map] at *; omega)) ?_; intro yb hyb hnyb
                conv => whnf
                refine ⟨rfl, ?_⟩
                conv => whnf
                refine ⟨b2, (nl_by1 _).sl, k2, nlv _, IntKind.u8.wrap (yb + 1), rfl, rfl, by omega, fun v => rfl, bl_in rfl rfl, ?_⟩; intro z hz
                conv => whnf
                refine ⟨(k2 + 1, z.1, z.2), ⟨by omega, hz.1.trans hq2, hz.2.trans hb2⟩, (by show q1.2.length - (k2 + 1) < q1.2.length - k2; omega), ?_⟩
                refine ⟨?_, ?_, ?_⟩
                · skip
                  refine leEnv_app (by kernel_rfl) (by kernel_rfl) ?_
                  repeat ((conv => whnf); first | exact True.intro | refine ⟨.rfl, ?_⟩ | refine ⟨.any, ?_⟩ | refine ⟨.nil, ?_⟩ | refine ⟨.int (by first | rfl | omega | (simp only [wrs]; omega)), ?_⟩)
                · skip
                  repeat (first | exact LeVs.nil | ((conv => whnf); first | exact True.intro | exact .none | exact .ext | exact .row rfl | refine .cells ?_ | refine ⟨_, _, rfl, .rfl, ?_⟩ | refine ⟨_, _, rfl, .any, ?_⟩ | refine ⟨_, _, rfl, .nil, ?_⟩ | refine ⟨_, _, rfl, .int (by first | rfl | omega | (simp only [wrs]; omega)), ?_⟩ | refine ⟨?_, ?_⟩))
                  done
                · skip
                  exact LeFr.same (by kernel_rfl)
              · skip
                try simp only [bls] at hc19
                conv => whnf
                refine ⟨(kq + 1, q2), ⟨by omega, hq2.trans hq⟩, (by show ms.length - (kq + 1) < ms.length - kq; omega), ?_⟩
                refine ⟨?_, ?_, ?_⟩
                · skip
                  refine leEnv_app (by kernel_rfl) (by kernel_rfl) ?_
                  repeat ((conv => whnf); first | exact True.intro | refine ⟨.rfl, ?_⟩ | refine ⟨.any, ?_⟩ | refine ⟨.nil, ?_⟩ | refine ⟨.int (by first | rfl | omega | (simp only [wrs]; omega)), ?_⟩)
                · skip
                  repeat (first | exact LeVs.nil | ((conv => whnf); first | exact True.intro | exact .none | exact .ext | exact .row rfl | refine .cells ?_ | refine ⟨_, _, rfl, .rfl, ?_⟩ | refine ⟨_, _, rfl, .any, ?_⟩ | refine ⟨_, _, rfl, .nil, ?_⟩ | refine ⟨_, _, rfl, .int (by first | rfl | omega | (simp only [wrs]; omega)), ?_⟩ | refine ⟨?_, ?_⟩))
                  done
                · skip
                  exact LeFr.same (by kernel_rfl)
          · skip
            try simp only [bls] at hc18
            conv => whnf
            refine .ct ?_
            conv => whnf
            refine CallG.mk (same6_X true true true true true true ⟨s3, l3, n.d⟩ ⟨s3, l3, n.d⟩ hz3 hz3) rfl ?_
            conv => whnf
            refine .wr (WCall.spoilZ 6 (ts := [netT true true true ⟨s3, l3, n.d⟩]) (sz_spoil hz3) rfl rfl ?_)
            conv => whnf
            refine bT (by simp [List.length_map, List.length_append, List.length_take, List.length_drop, List.length_cons, List.length_nil, slC, dfC, netX, net0, List.map_nil, mix_len, pkX, slX, sl0, delS]; done) ?_
            conv => whnf
            refine bT (by simp [List.length_map, List.length_append, List.length_take, List.length_drop, List.length_cons, List.length_nil, slC, dfC, netX, net0, List.map_nil, mix_len, pkX, slX, sl0, delS]; done) ?_
            conv => whnf
            refine bT (by simp [List.length_map, List.length_append, List.length_take, List.length_drop, List.length_cons, List.length_nil, slC, dfC, netX, net0, List.map_nil, mix_len, pkX, slX, sl0, delS]; done) ?_
            conv => whnf
            refine .ct ?_
            conv => whnf
            refine CallG.mk (same6_X true true true true true true n n hsz hsz) rfl ?_
            conv => whnf
            refine bT (by simp [List.length_map, List.length_append, List.length_take, List.length_drop, List.length_cons, List.length_nil, slC, dfC, netX, net0, List.map_nil, mix_len, pkX, slX, sl0, delS]; done) ?_
            conv => whnf
            refine FinG.mk none ?_ (by rintro _ ⟨⟩)
            simp only [outs, List.length_map, List.length_append, List.length_take, List.length_drop, List.length_cons, List.length_nil, slC, dfC, netX, net0, List.map_nil, mix_len, pkX, slX, sl0, delS]
            simp; done
end Go.Proofs.Ytmhmldpccccjbaa

namespace Go.Proofs.Ytmhmldpccccjbaa
open Go.RowKit
set_option linter.unusedVariables false
set_option linter.unusedSimpArgs false

abbrev shSay : List Sh := [.int .i64, .sl shSd]
def sayC (fr : Int) (ms : List Msg) : List TV := [.v (.int .i64 fr), .sl false (ms.map (sdC false))]
theorem open_say {c : List TV} (h : ShL shSay c) : ∃ (fr : Int) (ms : List Msg), c = sayC fr ms ∧ I64 fr ∧ SayIn ms := by
  obtain ⟨x, y, rfl, h1, h2⟩ := shL2 h
  obtain ⟨fr, rfl, h4⟩ := sh_int h1
  obtain ⟨ss, rfl, h5, h6⟩ := sh_sl h2
  obtain ⟨ms, rfl, h7, h8⟩ := open_sds h6
  exact ⟨fr, ms, rfl, i64_I h4, fun m hm => (h8 m hm).2.1, by rw [h7]; unfold maxLen at h5; omega⟩
end Go.Proofs.Ytmhmldpccccjbaa
