/- TablePairs's walk. No condition. -/
import Derived.Test.YtpgfhkbnngjegaaGreatDoorWQ
import Derived.Test.YtpgfhkbnngjegaaGreatDoorTP
namespace Go.Proofs.YtpgfhkbnngjegaaGreatDoor
open Go.RowKit
set_option linter.unusedVariables false
set_option linter.unusedSimpArgs false
theorem qwp0 {p : Prop} (h : p := by
 refine ⟨?_, ?_, ?_⟩
 ·refine leEnv_app (by kernel_rfl) (by kernel_rfl) ?_
  repeat ((conv => whnf); first | exact True.intro | refine ⟨.rfl, ?_⟩ | refine ⟨.any, ?_⟩ | refine ⟨.nil, ?_⟩ | refine ⟨.int (by first | rfl | omega | (simp only [wrs]; omega)), ?_⟩)
 ·repeat (first | exact LeVs.nil | ((conv => whnf); first | exact True.intro | exact .none | exact .ext | exact .row rfl | exact .rowF rfl rfl rfl | refine .cells ?_ | refine ⟨_, _, rfl, .rfl, ?_⟩ | refine ⟨_, _, rfl, .any, ?_⟩ | refine ⟨_, _, rfl, .nil, ?_⟩ | refine ⟨_, _, rfl, .int (by first | rfl | omega | (simp only [wrs]; omega)), ?_⟩ | refine ⟨?_, ?_⟩))
  done
 ·exact LeFr.nil) : p := h
theorem qwp1 {p : Prop} (h : p := by
 conv => whnf
 refine bF (by simp_all; done) ?_
 conv => whnf
 refine bF (by simp_all; done) ?_
 conv => whnf
 refine bF (by simp_all; done) ?_
 conv => whnf
 refine bF (by simp_all; done) ?_
 conv => whnf
 refine bF (by simp_all; done) ?_
 conv => whnf
 refine bF (by simp_all; done) ?_
 conv => whnf
 refine bF (by simp_all; done) ?_
 conv => whnf
 refine bF (by simp_all; done) ?_
 conv => whnf
 refine bF (by simp_all; done) ?_
 conv => whnf
 refine ⟨(k + 1), by omega, by omega, ?_⟩
 exact qwp0) : p := h
theorem qwp2 {p : Prop} (h : p := by
 conv => whnf
 refine FinG.mk none ?_ (by rintro _ ⟨⟩)
 simp only [outs, List.length_map, List.length_append, List.length_take, List.length_drop, List.length_cons, List.length_nil, fr_by1, fr_rw, fr_tb, fr_dc, fr_vl, fr_cl, tblZ, List.map_nil, wk_len, fr_vl, fr_rw, fr_dc, fr_tb]
 exact absurd (prS_rise haI (by omega) hx1 hy1) (by simp_all)) : p := h
theorem qwp3 {p : Prop} (h : p := by
 conv => whnf
 refine bT (by simp_all; done) ?_
 conv => whnf
 refine FinG.mk none ?_ (by rintro _ ⟨⟩)
 simp only [outs, List.length_map, List.length_append, List.length_take, List.length_drop, List.length_cons, List.length_nil, fr_by1, fr_rw, fr_tb, fr_dc, fr_vl, fr_cl, tblZ, List.map_nil, wk_len, fr_vl, fr_rw, fr_dc, fr_tb]) : p := h
theorem qwp4 {p : Prop} (h : p := by
 conv => whnf
 refine .ct ?_
 conv => whnf
 refine CallG.mk (check_T _ _ _ _ _ haI (by omega)) rfl ?_
 conv => whnf
 refine bT (by simp_all; done) ?_
 conv => whnf
 refine bT (by simp_all; done) ?_
 conv => whnf
 refine bT (by simp_all; done) ?_
 exact qwp3) : p := h
theorem qwp5 {p : Prop} (h : p := by
 conv => whnf
 refine ⟨(k + 1), by omega, by omega, ?_⟩
 exact qwp0) : p := h
set_option maxRecDepth 20000
theorem pairsS_T (b b1 b2 b3 : Bool) (s : List Tbl) (hs : ∀ t ∈ s, t.In) (hn : s.length ≤ 100000) : XMeets Tryz.prog 34 [stT b b1 b2 b3 s] (.p (.sl true ((prS s).map clC)) (nl_cl _).sl) := by
  cases h : stoB s with
  | true =>
    have e : prS s = prL s := by simp [prS, h]
    rw [e]
    exact (pairs_T b b1 b2 b3 s hs hn h (PRH.of h)).shared (fr_cl _)
  | false =>
    have e : prS s = [] := by simp [prS, h]
    rw [e]
    have hm := pairs_F b b1 b2 b3 s hs hn h
    exact ⟨hm.1, fun C vals hg hd => (hm.2 C vals hg hd).mono fun e w' ⟨u, ov, h1, h2, h3, h4⟩ => ⟨u, ov, h1, h2, h3, by
      have h5 : LeL [.nil_] [.sl true []] := ⟨_, _, rfl, LeT_nil_sl.2 rfl, rfl⟩
      have h6 := h5.dn (show DnL _ [.nil_] [u] from ⟨u, [], rfl, h4, rfl⟩)
      obtain ⟨u', us, e1, h7, h8⟩ := h6
      cases e1
      exact h7⟩⟩
set_option maxHeartbeats 4000000 in
set_option maxRecDepth 20000 in
theorem lPairs_T (b b1 b2 b3 c c1 c2 c3 : Bool) (a d : List Tbl) (hna : a.length ≤ 9223372036854775807) (hnb : d.length ≤ 9223372036854775807) (ha : (∀ t ∈ a, t.c.length ≤ 9223372036854775807 ∧ t.r.length ≤ 9223372036854775807 ∧ ∀ r ∈ t.r, r.length ≤ 9223372036854775807)) (hb : (∀ t ∈ d, t.c.length ≤ 9223372036854775807 ∧ t.r.length ≤ 9223372036854775807 ∧ ∀ r ∈ t.r, r.length ≤ 9223372036854775807)) (ia : ∀ t ∈ a, t.In0) (ib : ∀ t ∈ d, t.In0) : XMeets Tryz.prog 5 [stT b b1 b2 b3 a, stT c c1 c2 c3 d] (.p (.v (.bool (true))) (nlv _)) := by
 refine XMeets.of_X tabX_ok (avs := [.ag [.p (.sl false (a.map (tbC false false false))) (nl_tb _ _ _ _).sl], .ag [.p (.sl false (d.map (tbC false false false))) (nl_tb _ _ _ _).sl]]) [(0, .ag [.p (.sl false (a.map (tbC false false false))) (nl_tb _ _ _ _).sl]), (1, .ag [.p (.sl false (d.map (tbC false false false))) (nl_tb _ _ _ _).sl])] (by kernel_rfl) Tryz.func5 rfl (by simp [PuL, Pu, tbT, stT, tbC, rwC, vlC, dfC, pu_vl, pu_dc, pu_rw, pu_tb]) (by simp only [untagL, untag, tbT, stT, tbC, rwC, vlC, dfC, untag_vl, untag_dc, untag_rw, untag_tb]; rfl) rfl rfl ?_
 intro B w0
 have haI := stW_in ia
 have hbI := stW_in ib
 have hla := stW_len a
 have hlb := stW_len d
 have hpl := prS_len (stW a)
 cases hA : stoB (stW a) <;> cases hB : stoB (stW d)
 ·conv => whnf
  refine .ct ?_
  conv => whnf
  refine CallG.mk (wakes_T) rfl ?_
  conv => whnf
  refine RegG.par 4 (by kernel_rfl) ?_
  conv => whnf
  refine CallG.mk (short_T _ _ _ _ _ hna ha) rfl ?_
  conv => whnf
  refine CallG.mk (short_T _ _ _ _ _ hnb hb) rfl ?_
  conv => whnf
  refine RegG.par 6 (by kernel_rfl) ?_
  conv => whnf
  refine CallG.mk (pairsS_T _ _ _ _ _ haI (by omega)) rfl ?_
  conv => whnf
  refine CallG.mk (pairsS_T _ _ _ _ _ hbI (by omega)) rfl ?_
  conv => whnf
  refine XT.loop tabX_ok (Y := Nat) [4, 7, 8, 21, 22, 23, 24, 25, 26, 27, 28, 29, 30, 31, 32, 33, 34, 35, 36, 37, 38, 39] (fun k => [(21, .p (.v (.int .i64 (k))) (nlv _))]) (fun k => []) (fun k => k ≤ (prS (stW a)).length) (fun k => (prS (stW a)).length - k) 0 (Nat.zero_le _) ?_ ?_
  ·exact qwp0
  ·rintro k hk
   conv => whnf
   refine bS (fun hc1 => ?_) (fun hc1 => ?_)
   ·try simp only [bls] at hc1
    conv => whnf
    refine IdxG.map (l := prS (stW a)) k rfl (by first | omega | (simp only [List.length_map] at *; omega)) ?_; intro y1 hy1 hny1
    conv => whnf
    refine ⟨rfl, ?_⟩
    conv => whnf
    refine RegG.par 13 (by kernel_rfl) ?_
    conv => whnf
    refine bS (fun hc2 => ?_) (fun hc2 => ?_)
    ·try simp only [bls] at hc2
     conv => whnf
     refine bT (by simp_all; done) ?_
     conv => whnf
     refine bT (by simp_all; done) ?_
     conv => whnf
     refine bT (by simp_all; done) ?_
     conv => whnf
     rw [show IntKind.i64.wrap ((↑k : Int) - 1) = ((↑k : Int) - 1) from wz.1 _ (by omega) (by omega)]
     refine IdxG.map (l := prS (stW a)) (k - 1) (by omega) (by first | omega | (simp only [List.length_map] at *; omega)) ?_; intro x1 hx1 hnx1
     conv => whnf
     refine ⟨rfl, ?_⟩
     conv => whnf
     refine bT (by simp_all; done) ?_
     conv => whnf
     refine bT (by simp_all; done) ?_
     conv => whnf
     refine bT (by simp_all; done) ?_
     conv => whnf
     refine bT (by simp_all; done) ?_
     conv => whnf
     refine bT (by simp_all; done) ?_
     conv => whnf
     refine bT (by simp_all; done) ?_
     conv => whnf
     refine bS (fun hc3 => ?_) (fun hc3 => ?_)
     ·try simp only [bls] at hc3
      exact qwp2
     ·try simp only [bls] at hc3
      exact qwp5
    ·try simp only [bls] at hc2
     exact qwp1
   ·try simp only [bls] at hc1
    exact qwp4
 ·conv => whnf
  refine .ct ?_
  conv => whnf
  refine CallG.mk (wakes_T) rfl ?_
  conv => whnf
  refine RegG.par 4 (by kernel_rfl) ?_
  conv => whnf
  refine CallG.mk (short_T _ _ _ _ _ hna ha) rfl ?_
  conv => whnf
  refine CallG.mk (short_T _ _ _ _ _ hnb hb) rfl ?_
  conv => whnf
  refine RegG.par 6 (by kernel_rfl) ?_
  conv => whnf
  refine CallG.mk (pairsS_T _ _ _ _ _ haI (by omega)) rfl ?_
  conv => whnf
  refine CallG.mk (pairsS_T _ _ _ _ _ hbI (by omega)) rfl ?_
  conv => whnf
  refine XT.loop tabX_ok (Y := Nat) [4, 7, 8, 21, 22, 23, 24, 25, 26, 27, 28, 29, 30, 31, 32, 33, 34, 35, 36, 37, 38, 39] (fun k => [(21, .p (.v (.int .i64 (k))) (nlv _))]) (fun k => []) (fun k => k ≤ (prS (stW a)).length) (fun k => (prS (stW a)).length - k) 0 (Nat.zero_le _) ?_ ?_
  ·exact qwp0
  ·rintro k hk
   conv => whnf
   refine bS (fun hc4 => ?_) (fun hc4 => ?_)
   ·try simp only [bls] at hc4
    conv => whnf
    refine IdxG.map (l := prS (stW a)) k rfl (by first | omega | (simp only [List.length_map] at *; omega)) ?_; intro y1 hy1 hny1
    conv => whnf
    refine ⟨rfl, ?_⟩
    conv => whnf
    refine RegG.par 13 (by kernel_rfl) ?_
    conv => whnf
    refine bS (fun hc5 => ?_) (fun hc5 => ?_)
    ·try simp only [bls] at hc5
     conv => whnf
     refine bT (by simp_all; done) ?_
     conv => whnf
     refine bT (by simp_all; done) ?_
     conv => whnf
     refine bT (by simp_all; done) ?_
     conv => whnf
     rw [show IntKind.i64.wrap ((↑k : Int) - 1) = ((↑k : Int) - 1) from wz.1 _ (by omega) (by omega)]
     refine IdxG.map (l := prS (stW a)) (k - 1) (by omega) (by first | omega | (simp only [List.length_map] at *; omega)) ?_; intro x1 hx1 hnx1
     conv => whnf
     refine ⟨rfl, ?_⟩
     conv => whnf
     refine bT (by simp_all; done) ?_
     conv => whnf
     refine bT (by simp_all; done) ?_
     conv => whnf
     refine bT (by simp_all; done) ?_
     conv => whnf
     refine bT (by simp_all; done) ?_
     conv => whnf
     refine bT (by simp_all; done) ?_
     conv => whnf
     refine bT (by simp_all; done) ?_
     conv => whnf
     refine bS (fun hc6 => ?_) (fun hc6 => ?_)
     ·try simp only [bls] at hc6
      exact qwp2
     ·try simp only [bls] at hc6
      exact qwp5
    ·try simp only [bls] at hc5
     exact qwp1
   ·try simp only [bls] at hc4
    exact qwp4
 ·conv => whnf
  refine .ct ?_
  conv => whnf
  refine CallG.mk (wakes_T) rfl ?_
  conv => whnf
  refine RegG.par 4 (by kernel_rfl) ?_
  conv => whnf
  refine CallG.mk (short_T _ _ _ _ _ hna ha) rfl ?_
  conv => whnf
  refine CallG.mk (short_T _ _ _ _ _ hnb hb) rfl ?_
  conv => whnf
  refine RegG.par 6 (by kernel_rfl) ?_
  conv => whnf
  refine CallG.mk (pairsS_T _ _ _ _ _ haI (by omega)) rfl ?_
  conv => whnf
  refine CallG.mk (pairsS_T _ _ _ _ _ hbI (by omega)) rfl ?_
  conv => whnf
  refine XT.loop tabX_ok (Y := Nat) [4, 7, 8, 21, 22, 23, 24, 25, 26, 27, 28, 29, 30, 31, 32, 33, 34, 35, 36, 37, 38, 39] (fun k => [(21, .p (.v (.int .i64 (k))) (nlv _))]) (fun k => []) (fun k => k ≤ (prS (stW a)).length) (fun k => (prS (stW a)).length - k) 0 (Nat.zero_le _) ?_ ?_
  ·exact qwp0
  ·rintro k hk
   conv => whnf
   refine bS (fun hc7 => ?_) (fun hc7 => ?_)
   ·try simp only [bls] at hc7
    conv => whnf
    refine IdxG.map (l := prS (stW a)) k rfl (by first | omega | (simp only [List.length_map] at *; omega)) ?_; intro y1 hy1 hny1
    conv => whnf
    refine ⟨rfl, ?_⟩
    conv => whnf
    refine RegG.par 13 (by kernel_rfl) ?_
    conv => whnf
    refine bS (fun hc8 => ?_) (fun hc8 => ?_)
    ·try simp only [bls] at hc8
     conv => whnf
     refine bT (by simp_all; done) ?_
     conv => whnf
     refine bT (by simp_all; done) ?_
     conv => whnf
     refine bT (by simp_all; done) ?_
     conv => whnf
     rw [show IntKind.i64.wrap ((↑k : Int) - 1) = ((↑k : Int) - 1) from wz.1 _ (by omega) (by omega)]
     refine IdxG.map (l := prS (stW a)) (k - 1) (by omega) (by first | omega | (simp only [List.length_map] at *; omega)) ?_; intro x1 hx1 hnx1
     conv => whnf
     refine ⟨rfl, ?_⟩
     conv => whnf
     refine bT (by simp_all; done) ?_
     conv => whnf
     refine bT (by simp_all; done) ?_
     conv => whnf
     refine bT (by simp_all; done) ?_
     conv => whnf
     refine bT (by simp_all; done) ?_
     conv => whnf
     refine bT (by simp_all; done) ?_
     conv => whnf
     refine bT (by simp_all; done) ?_
     conv => whnf
     refine bS (fun hc9 => ?_) (fun hc9 => ?_)
     ·try simp only [bls] at hc9
      exact qwp2
     ·try simp only [bls] at hc9
      exact qwp5
    ·try simp only [bls] at hc8
     exact qwp1
   ·try simp only [bls] at hc7
    conv => whnf
    refine .ct ?_
    conv => whnf
    refine CallG.mk (check_T _ _ _ _ _ haI (by omega)) rfl ?_
    conv => whnf
    refine bF (by simp_all; done) ?_
    conv => whnf
    refine bF (by simp_all; done) ?_
    conv => whnf
    refine .ct ?_
    conv => whnf
    refine CallG.mk (check_T _ _ _ _ _ hbI (by omega)) rfl ?_
    conv => whnf
    refine bF (by simp_all; done) ?_
    conv => whnf
    refine bF (by simp_all; done) ?_
    exact qwp3
 ·conv => whnf
  refine .ct ?_
  conv => whnf
  refine CallG.mk (wakes_T) rfl ?_
  conv => whnf
  refine RegG.par 4 (by kernel_rfl) ?_
  conv => whnf
  refine CallG.mk (short_T _ _ _ _ _ hna ha) rfl ?_
  conv => whnf
  refine CallG.mk (short_T _ _ _ _ _ hnb hb) rfl ?_
  conv => whnf
  refine RegG.par 6 (by kernel_rfl) ?_
  conv => whnf
  refine CallG.mk (pairsS_T _ _ _ _ _ haI (by omega)) rfl ?_
  conv => whnf
  refine CallG.mk (pairsS_T _ _ _ _ _ hbI (by omega)) rfl ?_
  conv => whnf
  refine XT.loop tabX_ok (Y := Nat) [4, 7, 8, 21, 22, 23, 24, 25, 26, 27, 28, 29, 30, 31, 32, 33, 34, 35, 36, 37, 38, 39] (fun k => [(21, .p (.v (.int .i64 (k))) (nlv _))]) (fun k => []) (fun k => k ≤ (prS (stW a)).length) (fun k => (prS (stW a)).length - k) 0 (Nat.zero_le _) ?_ ?_
  ·exact qwp0
  ·rintro k hk
   conv => whnf
   refine bS (fun hc10 => ?_) (fun hc10 => ?_)
   ·try simp only [bls] at hc10
    conv => whnf
    refine IdxG.map (l := prS (stW a)) k rfl (by first | omega | (simp only [List.length_map] at *; omega)) ?_; intro y1 hy1 hny1
    conv => whnf
    refine ⟨rfl, ?_⟩
    conv => whnf
    refine RegG.par 13 (by kernel_rfl) ?_
    conv => whnf
    refine bS (fun hc11 => ?_) (fun hc11 => ?_)
    ·try simp only [bls] at hc11
     conv => whnf
     refine bT (by simp_all; done) ?_
     conv => whnf
     refine bT (by simp_all; done) ?_
     conv => whnf
     refine bT (by simp_all; done) ?_
     conv => whnf
     rw [show IntKind.i64.wrap ((↑k : Int) - 1) = ((↑k : Int) - 1) from wz.1 _ (by omega) (by omega)]
     refine IdxG.map (l := prS (stW a)) (k - 1) (by omega) (by first | omega | (simp only [List.length_map] at *; omega)) ?_; intro x1 hx1 hnx1
     conv => whnf
     refine ⟨rfl, ?_⟩
     conv => whnf
     refine bT (by simp_all; done) ?_
     conv => whnf
     refine bT (by simp_all; done) ?_
     conv => whnf
     refine bT (by simp_all; done) ?_
     conv => whnf
     refine bT (by simp_all; done) ?_
     conv => whnf
     refine bT (by simp_all; done) ?_
     conv => whnf
     refine bT (by simp_all; done) ?_
     conv => whnf
     refine bS (fun hc12 => ?_) (fun hc12 => ?_)
     ·try simp only [bls] at hc12
      exact qwp2
     ·try simp only [bls] at hc12
      exact qwp5
    ·try simp only [bls] at hc11
     exact qwp1
   ·try simp only [bls] at hc10
    conv => whnf
    refine .ct ?_
    conv => whnf
    refine CallG.mk (check_T _ _ _ _ _ haI (by omega)) rfl ?_
    conv => whnf
    refine bF (by simp_all; done) ?_
    conv => whnf
    refine bF (by simp_all; done) ?_
    conv => whnf
    refine .ct ?_
    conv => whnf
    refine CallG.mk (check_T _ _ _ _ _ hbI (by omega)) rfl ?_
    conv => whnf
    refine bF (by simp_all; done) ?_
    conv => whnf
    refine bF (by simp_all; done) ?_
    conv => whnf
    refine bF (by simp_all; done) ?_
    conv => whnf
    refine RegG.par 8 (by kernel_rfl) ?_
    conv => whnf
    refine CallG.mk (eqC_X _ _ _ _ (prS_len _)) rfl ?_
    conv => whnf
    refine CallG.mk (same_T _ _ _ _ _ _ _ _ _ _ (by omega) haI) rfl ?_
    conv => whnf
    refine FinG.mk none ?_ (by rintro _ ⟨⟩)
    simp only [outs, List.length_map, List.length_append, List.length_take, List.length_drop, List.length_cons, List.length_nil, fr_by1, fr_rw, fr_tb, fr_dc, fr_vl, fr_cl, tblZ, List.map_nil, wk_len, fr_vl, fr_rw, fr_dc, fr_tb]
    rw [prS_same haI hbI hA hB]
    simp
end Go.Proofs.YtpgfhkbnngjegaaGreatDoor
