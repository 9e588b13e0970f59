/- TableRows, walked. No condition. -/
import Derived.Test.YtpgfhkbnngjegaaGreatDoorWS
namespace Go.Proofs.YtpgfhkbnngjegaaGreatDoor
open Go.RowKit
set_option linter.unusedVariables false
set_option linter.unusedSimpArgs false
theorem qwr0 {p : Prop} (h : p := by
 refine ⟨?_, ?_, ?_⟩
 ·refine leEnv_app (by kernel_rfl) (by kernel_rfl) ?_
  repeat ((conv => whnf); first | exact True.intro | refine ⟨.rfl, ?_⟩ | refine ⟨.any, ?_⟩ | refine ⟨.nil, ?_⟩ | refine ⟨.int (by first | rfl | omega | (simp only [wrs]; omega)), ?_⟩)
 ·repeat (first | exact LeVs.nil | ((conv => whnf); first | exact True.intro | exact .none | exact .ext | exact .row rfl | exact .rowF rfl rfl rfl | refine .cells ?_ | refine ⟨_, _, rfl, .rfl, ?_⟩ | refine ⟨_, _, rfl, .any, ?_⟩ | refine ⟨_, _, rfl, .nil, ?_⟩ | refine ⟨_, _, rfl, .int (by first | rfl | omega | (simp only [wrs]; omega)), ?_⟩ | refine ⟨?_, ?_⟩))
  done
 ·exact LeFr.nil) : p := h
theorem qwr1 {p : Prop} (h : p := by
 refine ⟨?_, ?_, ?_⟩
 ·refine leEnv_app (by kernel_rfl) (by kernel_rfl) ?_
  repeat ((conv => whnf); first | exact True.intro | refine ⟨.rfl, ?_⟩ | refine ⟨.any, ?_⟩ | refine ⟨.nil, ?_⟩ | refine ⟨.int (by first | rfl | omega | (simp only [wrs]; omega)), ?_⟩ | refine ⟨.tv (by first | rfl | (rw [mayK_s hv1]; simp_all; done)), ?_⟩)
 ·repeat (first | exact LeVs.nil | ((conv => whnf); first | exact True.intro | exact .none | exact .ext | exact .row rfl | exact .rowF rfl rfl rfl | refine .cells ?_ | refine ⟨_, _, rfl, .rfl, ?_⟩ | refine ⟨_, _, rfl, .any, ?_⟩ | refine ⟨_, _, rfl, .nil, ?_⟩ | refine ⟨_, _, rfl, .int (by first | rfl | omega | (simp only [wrs]; omega)), ?_⟩ | refine ⟨_, _, rfl, .tv (by first | rfl | (rw [mayK_s hv1]; simp_all; done)), ?_⟩ | refine ⟨?_, ?_⟩))
  done
 ·exact LeFr.nil) : p := h
theorem qwr2 {p : Prop} (h : p := by
 conv => whnf
 refine .ct ?_
 conv => whnf
 refine CallG.mk (rk12_T _ _ hT.n (hr1o _ (List.mem_of_getElem? hv1)) (by assumption)) rfl ?_
 conv => whnf
 refine .ct ?_
 conv => whnf
 refine CallG.mk (rk_T _ _ hT.n (hr1o _ (List.mem_of_getElem? hv1))) rfl ?_
 conv => whnf
 refine bF (by rw [eqS_self]; rfl) ?_
 conv => whnf
 refine ⟨(m + 1), by omega, by omega, ?_⟩
 exact qwr0) : p := h
theorem qwr3 {p : Prop} (h : p := by
 conv => whnf
 refine .ct ?_
 conv => whnf
 refine CallG.mk (rk_T _ _ hT.n (hr1o _ (List.mem_of_getElem? hv1))) rfl ?_
 conv => whnf
 refine bF (by rw [rkS_f (by assumption), eqS_self]; rfl) ?_
 conv => whnf
 refine ⟨(m + 1), by omega, by omega, ?_⟩
 exact qwr0) : p := h
theorem qwr4 {p : Prop} (h : p := by
 conv => whnf
 refine .ct ?_
 conv => whnf
 refine CallG.mk (col_T true true true (tbW t) _ hT.cn) rfl ?_
 conv => whnf
 refine .ct ?_
 conv => whnf
 refine CallG.mk (col12_T true true true (tbW t) _ hT.cn) rfl ?_
 conv => whnf
 refine bF (by simp_all; done) ?_
 conv => whnf
 refine bF (by simp_all; done) ?_
 conv => whnf
 refine bF (by simp_all; done) ?_
 conv => whnf
 refine bF (by simp_all; done) ?_
 conv => whnf
 refine bF (by simp_all; done) ?_
 conv => whnf
 refine bF (by simp_all; done) ?_
 conv => whnf
 refine ⟨(k + 1), by omega, by omega, ?_⟩
 exact qwr0) : p := h
theorem qwr5 {p : Prop} (h : p := by
 conv => whnf
 refine bT (by simp_all; done) ?_
 conv => whnf
 refine .ct ?_
 conv => whnf
 refine CallG.mk (right_X _) rfl ?_
 conv => whnf
 refine bT (by simp_all; done) ?_
 conv => whnf
 refine ⟨(j + 1), by omega, by omega, ?_⟩
 exact qwr1) : p := h
theorem qwr6 {p : Prop} (h : p := by
 conv => whnf
 refine bF (by simp_all; done) ?_
 conv => whnf
 refine bF (by simp_all; done) ?_
 conv => whnf
 refine ⟨(j + 1), by omega, by omega, ?_⟩
 exact qwr1) : p := h
theorem qwr7 {p : Prop} (h : p := by
 conv => whnf
 refine ⟨(q + 1), by omega, by omega, ?_⟩
 exact qwr0) : p := h
theorem qwr8 {p : Prop} (h : p := by
 conv => whnf
 refine FinG.mk none ?_ (by rintro _ ⟨⟩)
 simp only [outs, List.length_map, List.length_append, List.length_take, List.length_drop, List.length_cons, List.length_nil, fr_by1, fr_rw, fr_tb, fr_dc, fr_vl, fr_cl, tblZ, List.map_nil, wk_len, fr_vl, fr_rw, fr_dc, fr_tb]) : p := h
set_option maxRecDepth 20000
def mayK (r : List Val) (j : Nat) : Bool := (r.take j).all rightB
theorem mayK_s {r : List Val} {j : Nat} {v : Val} (h : r[j]? = some v) : mayK r (j + 1) = (mayK r j && rightB v) := by
  obtain ⟨hk, rfl⟩ := List.getElem?_eq_some_iff.1 h
  unfold mayK
  rw [List.take_succ_eq_append_getElem hk, List.all_append]
  simp
theorem mayK_e {r : List Val} {j : Nat} (h : j ≤ r.length) (h2 : (r.length : Int) ≤ j) : mayK r j = okR r := by
  unfold mayK okR
  rw [List.take_of_length_le (by omega)]
theorem rbS_n {r : List Val} (h : okR r = false) : rbS r = ⟨#[]⟩ := by simp [rbS, h]
theorem eqS_self (s : ByteArray) : bsEq s s = true := (bsEq_t _ _).mpr rfl
set_option maxHeartbeats 4000000 in
set_option maxRecDepth 20000 in
theorem lRows_T (b b2 b3 b4 b5 b6 : Bool) (t : Tbl) (l : List (List Val)) (ns : List ByteArray) (ht : t.In0) (hc : t.c.length ≤ 9223372036854775807) (hn : t.r.length ≤ 9223372036854775807) (hr : ∀ r ∈ t.r, r.length ≤ 9223372036854775807) (hl : l.length ≤ 9223372036854775807) (hlr : ∀ r ∈ l, r.length ≤ 9223372036854775807) (hlv : ∀ r ∈ l, ∀ v ∈ r, ValI v) (hns : ns.length ≤ 9223372036854775807) : XMeets Tryz.prog 3 [tbT b b2 b3 t, .sl b4 (l.map (rwC b5)), .sl b6 (ns.map st1)] (.p (.v (.bool (true))) (nlv _)) := by
 refine XMeets.of_X tabX_ok (avs := [.ag [.p (.v (.string (t.n))) (nlv _), .p (.sl false (t.c.map dfC)) (nl_dc _).sl, .p (.sl false (t.r.map (rwC false))) (nl_rw _ _).sl], .p (.sl false (l.map (rwC false))) (nl_rw _ _).sl, .p (.sl false (ns.map st1)) (nl_st _).sl]) [(0, .ag [.p (.v (.string (t.n))) (nlv _), .p (.sl false (t.c.map dfC)) (nl_dc _).sl, .p (.sl false (t.r.map (rwC false))) (nl_rw _ _).sl]), (1, .p (.sl false (l.map (rwC false))) (nl_rw _ _).sl), (2, .p (.sl false (ns.map st1)) (nl_st _).sl)] (by kernel_rfl) Tryz.func3 rfl (by simp [PuL, Pu, tbT, stT, tbC, rwC, vlC, dfC, pu_vl, pu_dc, pu_rw, pu_tb, pu_st]) (by simp only [untagL, untag, tbT, stT, tbC, rwC, vlC, dfC, untag_vl, untag_dc, untag_rw, untag_tb, untag_st]; rfl) rfl rfl ?_
 intro B w0
 have hT := tbW_in ht
 have hrs := rsW_in (n := 12) hlv
 have hrl := rsW_len l 12
 cases hR : tabB (tbW t)
 ·conv => whnf
  refine .ct ?_
  conv => whnf
  refine CallG.mk (wakes_T) rfl ?_
  conv => whnf
  refine .ct ?_
  conv => whnf
  refine CallG.mk (one_T _ _ _ _ hc hn hr) rfl ?_
  conv => whnf
  refine .ct ?_
  conv => whnf
  refine CallG.mk (rightT_T true true true (tbW t) hT) rfl ?_
  conv => whnf
  refine .ct ?_
  conv => whnf
  refine CallG.mk (checkT_T true true true (tbW t) hT) rfl ?_
  conv => whnf
  refine bF (by simp_all; done) ?_
  conv => whnf
  refine bF (by simp_all; done) ?_
  conv => whnf
  refine bF (by simp_all; done) ?_
  conv => whnf
  refine bT (by simp_all; done) ?_
  conv => whnf
  refine bT (by simp_all; done) ?_
  conv => whnf
  refine bF (by simp_all; done) ?_
  conv => whnf
  refine bT (by simp_all; done) ?_
  conv => whnf
  refine bF (by simp_all; done) ?_
  conv => whnf
  refine bF (by simp_all; done) ?_
  conv => whnf
  refine .ct ?_
  conv => whnf
  refine CallG.mk (key_T true true true (tbW t) hT.cn) rfl ?_
  conv => whnf
  refine .ct ?_
  conv => whnf
  refine CallG.mk (key12_T true true true (tbW t) hT.cn) rfl ?_
  conv => whnf
  refine bF (by simp_all; done) ?_
  conv => whnf
  refine bF (by simp_all; done) ?_
  conv => whnf
  refine bF (by simp_all; done) ?_
  conv => whnf
  refine bF (by simp_all; done) ?_
  conv => whnf
  refine bF (by simp_all; done) ?_
  conv => whnf
  refine bF (by simp_all; done) ?_
  conv => whnf
  refine XT.loop tabX_ok (Y := Nat) [6, 12, 13, 14, 15, 16, 67, 68, 69, 70, 71, 72, 73, 74, 75, 76, 77, 78, 79, 80, 81, 82, 83, 84, 85, 86, 87, 88, 89, 90, 91, 92, 93] (fun k => [(67, .p (.v (.int .i64 (k))) (nlv _))]) (fun k => []) (fun k => k ≤ ns.length) (fun k => ns.length - k) 0 (Nat.zero_le _) ?_ ?_
  ·exact qwr0
  ·rintro k hk
   conv => whnf
   refine bS (fun hc1 => ?_) (fun hc1 => ?_)
   ·try simp only [bls] at hc1
    conv => whnf
    refine IdxG.map (l := ns) k rfl (by first | omega | (simp only [List.length_map] at *; omega)) ?_; intro x1 hx1 hnx1
    conv => whnf
    refine ⟨rfl, ?_⟩
    conv => whnf
    refine bS (fun hc2 => ?_) (fun hc2 => ?_)
    ·try simp only [bls] at hc2
     exact qwr4
    ·try simp only [bls] at hc2
     conv => whnf
     refine ⟨(k + 1), by omega, by omega, ?_⟩
     exact qwr0
   ·try simp only [bls] at hc1
    conv => whnf
    refine .ct ?_
    conv => whnf
    refine CallG.mk (rows_T _ _ _ 12 hl hlr (by omega)) rfl ?_
    conv => whnf
    refine XT.loop tabX_ok (Y := Nat) [6, 18, 19, 20, 21, 22, 24, 26, 27, 97, 98, 99, 100, 101, 102, 103, 104, 105, 106, 107, 108, 109, 110, 111, 112, 113, 114, 115, 116, 117, 118, 119, 120, 121, 122, 123, 124, 125, 126, 127, 128, 129, 130, 131, 132, 133, 134, 135, 136, 137, 138, 139, 140, 141, 142, 143, 144, 145, 146, 147, 148, 149, 150, 151, 152, 153, 154, 155, 156, 157, 158, 159, 160, 161, 162, 163, 164, 165, 166, 167, 168, 169, 170, 171] (fun q => [(97, .p (.v (.int .i64 (q))) (nlv _))]) (fun q => []) (fun q => q ≤ (rsW l 12).length) (fun q => (rsW l 12).length - q) 0 (Nat.zero_le _) ?_ ?_
    ·exact qwr0
    ·rintro q hq
     conv => whnf
     refine bS (fun hc3 => ?_) (fun hc3 => ?_)
     ·try simp only [bls] at hc3
      conv => whnf
      refine ⟨_, rfl, ?_⟩
      conv => whnf
      refine ⟨by simp only [bls]; omega, ?_⟩
      conv => whnf
      refine IdxG.map (l := rsW l 12) q rfl (by first | omega | (simp only [List.length_map] at *; omega)) ?_; intro r1 hr1 hnr1; obtain ⟨hr1n, hr1o⟩ := hrs _ (List.mem_of_getElem? hr1)
      conv => whnf
      refine .ct ?_
      conv => whnf
      refine CallG.mk (checkR_T true true true true (tbW t) r1 hT hr1n) rfl ?_
      conv => whnf
      refine .ct ?_
      conv => whnf
      refine CallG.mk (row12_T true true true true (tbW t) r1 hT.cn hr1n) rfl ?_
      conv => whnf
      refine bT (by simp_all; done) ?_
      conv => whnf
      refine bT (by simp_all; done) ?_
      conv => whnf
      refine bT (by simp_all; done) ?_
      conv => whnf
      refine bF (by simp_all; done) ?_
      conv => whnf
      refine bF (by simp_all; done) ?_
      conv => whnf
      refine bF (by simp_all; done) ?_
      conv => whnf
      refine bF (by simp_all; done) ?_
      conv => whnf
      refine bF (by simp_all; done) ?_
      conv => whnf
      refine bF (by simp_all; done) ?_
      conv => whnf
      refine bF (by simp_all; done) ?_
      conv => whnf
      refine bF (by simp_all; done) ?_
      conv => whnf
      refine bF (by simp_all; done) ?_
      conv => whnf
      refine bF (by simp_all; done) ?_
      conv => whnf
      refine bF (by simp_all; done) ?_
      conv => whnf
      refine bF (by simp_all; done) ?_
      conv => whnf
      refine XT.loop tabX_ok (Y := Nat) [22, 24, 135, 136, 137, 138, 139, 140, 141, 142, 143, 144] (fun j => [(135, .p (.v (.int .i64 (j))) (nlv _)), (22, .p (.v (.bool (mayK r1 j))) (nlv _))]) (fun j => []) (fun j => j ≤ r1.length) (fun j => r1.length - j) 0 (Nat.zero_le _) ?_ ?_
      ·exact qwr1
      ·rintro j hj
       conv => whnf
       refine bS (fun hc4 => ?_) (fun hc4 => ?_)
       ·try simp only [bls] at hc4
        conv => whnf
        refine IdxG.map (l := r1) j rfl (by first | omega | (simp only [List.length_map] at *; omega)) ?_; intro v1 hv1 hnv1
        conv => whnf
        refine ⟨rfl, ?_⟩
        conv => whnf
        refine bS (fun hc5 => ?_) (fun hc5 => ?_)
        ·try simp only [bls] at hc5
         exact qwr5
        ·try simp only [bls] at hc5
         exact qwr6
       ·try simp only [bls] at hc4
        have hmk := mayK_e hj (by simpa using hc4)
        conv => whnf
        refine bS (fun hc6 => ?_) (fun hc6 => ?_)
        ·try simp only [bls] at hc6
         have hok : okR r1 = true := hmk ▸ hc6
         conv => whnf
         refine .ct ?_
         conv => whnf
         refine CallG.mk (rb12_T _ _ hr1n hr1o hok) rfl ?_
         conv => whnf
         refine .ct ?_
         conv => whnf
         refine CallG.mk (rb_T _ _ hr1n hr1o) rfl ?_
         conv => whnf
         refine bF (by rw [eqS_self]; rfl) ?_
         conv => whnf
         refine XT.loop tabX_ok (Y := Nat) [6, 26, 27, 154, 155, 156, 157, 158, 159, 160, 161, 162, 163, 164, 165, 166, 167, 168, 169, 170] (fun m => [(154, .p (.v (.int .i64 (m))) (nlv _))]) (fun m => []) (fun m => m ≤ r1.length) (fun m => r1.length - m) 0 (Nat.zero_le _) ?_ ?_
         ·exact qwr0
         ·rintro m hm
          conv => whnf
          refine bS (fun hc7 => ?_) (fun hc7 => ?_)
          ·try simp only [bls] at hc7
           conv => whnf
           refine IdxG.map (l := r1) m rfl (by first | omega | (simp only [List.length_map] at *; omega)) ?_; intro v1 hv1 hnv1
           conv => whnf
           refine ⟨rfl, ?_⟩
           conv => whnf
           refine .ct ?_
           conv => whnf
           refine CallG.mk (right_X _) rfl ?_
           conv => whnf
           refine bS (fun hc8 => ?_) (fun hc8 => ?_)
           ·try simp only [bls] at hc8
            exact qwr2
           ·try simp only [bls] at hc8
            exact qwr3
          ·try simp only [bls] at hc7
           exact qwr7
        ·try simp only [bls] at hc6
         have hok : okR r1 = false := hmk ▸ hc6
         have hrb := rbS_n hok
         conv => whnf
         refine .ct ?_
         conv => whnf
         refine CallG.mk (rb_T _ _ hr1n hr1o) rfl ?_
         conv => whnf
         refine bF (by rw [hrb, eqS_self]; rfl) ?_
         conv => whnf
         refine XT.loop tabX_ok (Y := Nat) [6, 26, 27, 154, 155, 156, 157, 158, 159, 160, 161, 162, 163, 164, 165, 166, 167, 168, 169, 170] (fun m => [(154, .p (.v (.int .i64 (m))) (nlv _))]) (fun m => []) (fun m => m ≤ r1.length) (fun m => r1.length - m) 0 (Nat.zero_le _) ?_ ?_
         ·exact qwr0
         ·rintro m hm
          conv => whnf
          refine bS (fun hc9 => ?_) (fun hc9 => ?_)
          ·try simp only [bls] at hc9
           conv => whnf
           refine IdxG.map (l := r1) m rfl (by first | omega | (simp only [List.length_map] at *; omega)) ?_; intro v1 hv1 hnv1
           conv => whnf
           refine ⟨rfl, ?_⟩
           conv => whnf
           refine .ct ?_
           conv => whnf
           refine CallG.mk (right_X _) rfl ?_
           conv => whnf
           refine bS (fun hc10 => ?_) (fun hc10 => ?_)
           ·try simp only [bls] at hc10
            exact qwr2
           ·try simp only [bls] at hc10
            exact qwr3
          ·try simp only [bls] at hc9
           exact qwr7
     ·try simp only [bls] at hc3
      exact qwr8
 ·conv => whnf
  refine .ct ?_
  conv => whnf
  refine CallG.mk (wakes_T) rfl ?_
  conv => whnf
  refine .ct ?_
  conv => whnf
  refine CallG.mk (one_T _ _ _ _ hc hn hr) rfl ?_
  conv => whnf
  refine .ct ?_
  conv => whnf
  refine CallG.mk (rightT_T true true true (tbW t) hT) rfl ?_
  conv => whnf
  refine .ct ?_
  conv => whnf
  refine CallG.mk (checkT_T true true true (tbW t) hT) rfl ?_
  conv => whnf
  refine bF (by simp_all; done) ?_
  conv => whnf
  refine bF (by simp_all; done) ?_
  conv => whnf
  refine bF (by simp_all; done) ?_
  conv => whnf
  refine bF (by simp_all; done) ?_
  conv => whnf
  refine bF (by simp_all; done) ?_
  conv => whnf
  refine bF (by simp_all; done) ?_
  conv => whnf
  refine bF (by simp_all; done) ?_
  conv => whnf
  refine bF (by simp_all; done) ?_
  conv => whnf
  refine .ct ?_
  conv => whnf
  refine CallG.mk (key_T true true true (tbW t) hT.cn) rfl ?_
  conv => whnf
  refine .ct ?_
  conv => whnf
  refine CallG.mk (key12_T true true true (tbW t) hT.cn) rfl ?_
  conv => whnf
  refine bF (by simp_all; done) ?_
  conv => whnf
  refine bF (by simp_all; done) ?_
  conv => whnf
  refine bF (by simp_all; done) ?_
  conv => whnf
  refine bF (by simp_all; done) ?_
  conv => whnf
  refine bF (by simp_all; done) ?_
  conv => whnf
  refine bF (by simp_all; done) ?_
  conv => whnf
  refine XT.loop tabX_ok (Y := Nat) [6, 12, 13, 14, 15, 16, 67, 68, 69, 70, 71, 72, 73, 74, 75, 76, 77, 78, 79, 80, 81, 82, 83, 84, 85, 86, 87, 88, 89, 90, 91, 92, 93] (fun k => [(67, .p (.v (.int .i64 (k))) (nlv _))]) (fun k => []) (fun k => k ≤ ns.length) (fun k => ns.length - k) 0 (Nat.zero_le _) ?_ ?_
  ·exact qwr0
  ·rintro k hk
   conv => whnf
   refine bS (fun hc11 => ?_) (fun hc11 => ?_)
   ·try simp only [bls] at hc11
    conv => whnf
    refine IdxG.map (l := ns) k rfl (by first | omega | (simp only [List.length_map] at *; omega)) ?_; intro x1 hx1 hnx1
    conv => whnf
    refine ⟨rfl, ?_⟩
    conv => whnf
    refine bS (fun hc12 => ?_) (fun hc12 => ?_)
    ·try simp only [bls] at hc12
     exact qwr4
    ·try simp only [bls] at hc12
     conv => whnf
     refine ⟨(k + 1), by omega, by omega, ?_⟩
     exact qwr0
   ·try simp only [bls] at hc11
    conv => whnf
    refine .ct ?_
    conv => whnf
    refine CallG.mk (rows_T _ _ _ 12 hl hlr (by omega)) rfl ?_
    conv => whnf
    refine XT.loop tabX_ok (Y := Nat) [6, 18, 19, 20, 21, 22, 24, 26, 27, 97, 98, 99, 100, 101, 102, 103, 104, 105, 106, 107, 108, 109, 110, 111, 112, 113, 114, 115, 116, 117, 118, 119, 120, 121, 122, 123, 124, 125, 126, 127, 128, 129, 130, 131, 132, 133, 134, 135, 136, 137, 138, 139, 140, 141, 142, 143, 144, 145, 146, 147, 148, 149, 150, 151, 152, 153, 154, 155, 156, 157, 158, 159, 160, 161, 162, 163, 164, 165, 166, 167, 168, 169, 170, 171] (fun q => [(97, .p (.v (.int .i64 (q))) (nlv _))]) (fun q => []) (fun q => q ≤ (rsW l 12).length) (fun q => (rsW l 12).length - q) 0 (Nat.zero_le _) ?_ ?_
    ·exact qwr0
    ·rintro q hq
     conv => whnf
     refine bS (fun hc13 => ?_) (fun hc13 => ?_)
     ·try simp only [bls] at hc13
      conv => whnf
      refine ⟨_, rfl, ?_⟩
      conv => whnf
      refine ⟨by simp only [bls]; omega, ?_⟩
      conv => whnf
      refine IdxG.map (l := rsW l 12) q rfl (by first | omega | (simp only [List.length_map] at *; omega)) ?_; intro r1 hr1 hnr1; obtain ⟨hr1n, hr1o⟩ := hrs _ (List.mem_of_getElem? hr1)
      conv => whnf
      refine .ct ?_
      conv => whnf
      refine CallG.mk (checkR_T true true true true (tbW t) r1 hT hr1n) rfl ?_
      conv => whnf
      refine .ct ?_
      conv => whnf
      refine CallG.mk (row12_T true true true true (tbW t) r1 hT.cn hr1n) rfl ?_
      conv => whnf
      refine bF (by simp_all; done) ?_
      conv => whnf
      refine bF (by simp_all; done) ?_
      conv => whnf
      refine bF (by simp_all; done) ?_
      conv => whnf
      refine bT (by simp_all; done) ?_
      conv => whnf
      refine bT (by simp_all; done) ?_
      conv => whnf
      refine bT (by simp_all; done) ?_
      conv => whnf
      refine bT (by simp_all; done) ?_
      conv => whnf
      refine bT (by simp_all; done) ?_
      conv => whnf
      refine bF (by simp_all; done) ?_
      conv => whnf
      refine bF (by simp_all; done) ?_
      conv => whnf
      refine bT (by simp_all; done) ?_
      conv => whnf
      refine bT (by simp_all; done) ?_
      conv => whnf
      refine bF (by simp_all; done) ?_
      conv => whnf
      refine bT (by simp_all; done) ?_
      conv => whnf
      refine bF (by simp_all; done) ?_
      conv => whnf
      refine bS (fun hc14 => ?_) (fun hc14 => ?_)
      ·try simp only [bls] at hc14
       conv => whnf
       refine bT (by simp_all; done) ?_
       conv => whnf
       refine bF (by simp_all; done) ?_
       conv => whnf
       refine bT (by simp_all; done) ?_
       conv => whnf
       refine bF (by simp_all; done) ?_
       conv => whnf
       refine bF (by simp_all; done) ?_
       conv => whnf
       refine XT.loop tabX_ok (Y := Nat) [22, 24, 135, 136, 137, 138, 139, 140, 141, 142, 143, 144] (fun j => [(135, .p (.v (.int .i64 (j))) (nlv _)), (22, .p (.v (.bool (mayK r1 j))) (nlv _))]) (fun j => []) (fun j => j ≤ r1.length) (fun j => r1.length - j) 0 (Nat.zero_le _) ?_ ?_
       ·exact qwr1
       ·rintro j hj
        conv => whnf
        refine bS (fun hc15 => ?_) (fun hc15 => ?_)
        ·try simp only [bls] at hc15
         conv => whnf
         refine IdxG.map (l := r1) j rfl (by first | omega | (simp only [List.length_map] at *; omega)) ?_; intro v1 hv1 hnv1
         conv => whnf
         refine ⟨rfl, ?_⟩
         conv => whnf
         refine bS (fun hc16 => ?_) (fun hc16 => ?_)
         ·try simp only [bls] at hc16
          exact qwr5
         ·try simp only [bls] at hc16
          exact qwr6
        ·try simp only [bls] at hc15
         have hmk := mayK_e hj (by simpa using hc15)
         conv => whnf
         refine bS (fun hc17 => ?_) (fun hc17 => ?_)
         ·try simp only [bls] at hc17
          have hok : okR r1 = true := hmk ▸ hc17
          conv => whnf
          refine .ct ?_
          conv => whnf
          refine CallG.mk (rb12_T _ _ hr1n hr1o hok) rfl ?_
          conv => whnf
          refine .ct ?_
          conv => whnf
          refine CallG.mk (rb_T _ _ hr1n hr1o) rfl ?_
          conv => whnf
          refine bF (by rw [eqS_self]; rfl) ?_
          conv => whnf
          refine XT.loop tabX_ok (Y := Nat) [6, 26, 27, 154, 155, 156, 157, 158, 159, 160, 161, 162, 163, 164, 165, 166, 167, 168, 169, 170] (fun m => [(154, .p (.v (.int .i64 (m))) (nlv _))]) (fun m => []) (fun m => m ≤ r1.length) (fun m => r1.length - m) 0 (Nat.zero_le _) ?_ ?_
          ·exact qwr0
          ·rintro m hm
           conv => whnf
           refine bS (fun hc18 => ?_) (fun hc18 => ?_)
           ·try simp only [bls] at hc18
            conv => whnf
            refine IdxG.map (l := r1) m rfl (by first | omega | (simp only [List.length_map] at *; omega)) ?_; intro v1 hv1 hnv1
            conv => whnf
            refine ⟨rfl, ?_⟩
            conv => whnf
            refine .ct ?_
            conv => whnf
            refine CallG.mk (right_X _) rfl ?_
            conv => whnf
            refine bS (fun hc19 => ?_) (fun hc19 => ?_)
            ·try simp only [bls] at hc19
             exact qwr2
            ·try simp only [bls] at hc19
             exact qwr3
           ·try simp only [bls] at hc18
            exact qwr7
         ·try simp only [bls] at hc17
          have hok : okR r1 = false := hmk ▸ hc17
          have hrb := rbS_n hok
          conv => whnf
          refine .ct ?_
          conv => whnf
          refine CallG.mk (rb_T _ _ hr1n hr1o) rfl ?_
          conv => whnf
          refine bF (by rw [hrb, eqS_self]; rfl) ?_
          conv => whnf
          refine XT.loop tabX_ok (Y := Nat) [6, 26, 27, 154, 155, 156, 157, 158, 159, 160, 161, 162, 163, 164, 165, 166, 167, 168, 169, 170] (fun m => [(154, .p (.v (.int .i64 (m))) (nlv _))]) (fun m => []) (fun m => m ≤ r1.length) (fun m => r1.length - m) 0 (Nat.zero_le _) ?_ ?_
          ·exact qwr0
          ·rintro m hm
           conv => whnf
           refine bS (fun hc20 => ?_) (fun hc20 => ?_)
           ·try simp only [bls] at hc20
            conv => whnf
            refine IdxG.map (l := r1) m rfl (by first | omega | (simp only [List.length_map] at *; omega)) ?_; intro v1 hv1 hnv1
            conv => whnf
            refine ⟨rfl, ?_⟩
            conv => whnf
            refine .ct ?_
            conv => whnf
            refine CallG.mk (right_X _) rfl ?_
            conv => whnf
            refine bS (fun hc21 => ?_) (fun hc21 => ?_)
            ·try simp only [bls] at hc21
             exact qwr2
            ·try simp only [bls] at hc21
             exact qwr3
           ·try simp only [bls] at hc20
            exact qwr7
      ·try simp only [bls] at hc14
       conv => whnf
       refine bF (by simp_all; done) ?_
       conv => whnf
       refine bF (by simp_all; done) ?_
       conv => whnf
       refine bF (by simp_all; done) ?_
       conv => whnf
       refine bF (by simp_all; done) ?_
       conv => whnf
       refine XT.loop tabX_ok (Y := Nat) [22, 24, 135, 136, 137, 138, 139, 140, 141, 142, 143, 144] (fun j => [(135, .p (.v (.int .i64 (j))) (nlv _)), (22, .p (.v (.bool (mayK r1 j))) (nlv _))]) (fun j => []) (fun j => j ≤ r1.length) (fun j => r1.length - j) 0 (Nat.zero_le _) ?_ ?_
       ·exact qwr1
       ·rintro j hj
        conv => whnf
        refine bS (fun hc22 => ?_) (fun hc22 => ?_)
        ·try simp only [bls] at hc22
         conv => whnf
         refine IdxG.map (l := r1) j rfl (by first | omega | (simp only [List.length_map] at *; omega)) ?_; intro v1 hv1 hnv1
         conv => whnf
         refine ⟨rfl, ?_⟩
         conv => whnf
         refine bS (fun hc23 => ?_) (fun hc23 => ?_)
         ·try simp only [bls] at hc23
          exact qwr5
         ·try simp only [bls] at hc23
          exact qwr6
        ·try simp only [bls] at hc22
         have hmk := mayK_e hj (by simpa using hc22)
         conv => whnf
         refine bS (fun hc24 => ?_) (fun hc24 => ?_)
         ·try simp only [bls] at hc24
          have hok : okR r1 = true := hmk ▸ hc24
          conv => whnf
          refine .ct ?_
          conv => whnf
          refine CallG.mk (rb12_T _ _ hr1n hr1o hok) rfl ?_
          conv => whnf
          refine .ct ?_
          conv => whnf
          refine CallG.mk (rb_T _ _ hr1n hr1o) rfl ?_
          conv => whnf
          refine bF (by rw [eqS_self]; rfl) ?_
          conv => whnf
          refine XT.loop tabX_ok (Y := Nat) [6, 26, 27, 154, 155, 156, 157, 158, 159, 160, 161, 162, 163, 164, 165, 166, 167, 168, 169, 170] (fun m => [(154, .p (.v (.int .i64 (m))) (nlv _))]) (fun m => []) (fun m => m ≤ r1.length) (fun m => r1.length - m) 0 (Nat.zero_le _) ?_ ?_
          ·exact qwr0
          ·rintro m hm
           conv => whnf
           refine bS (fun hc25 => ?_) (fun hc25 => ?_)
           ·try simp only [bls] at hc25
            conv => whnf
            refine IdxG.map (l := r1) m rfl (by first | omega | (simp only [List.length_map] at *; omega)) ?_; intro v1 hv1 hnv1
            conv => whnf
            refine ⟨rfl, ?_⟩
            conv => whnf
            refine .ct ?_
            conv => whnf
            refine CallG.mk (right_X _) rfl ?_
            conv => whnf
            refine bS (fun hc26 => ?_) (fun hc26 => ?_)
            ·try simp only [bls] at hc26
             exact qwr2
            ·try simp only [bls] at hc26
             exact qwr3
           ·try simp only [bls] at hc25
            exact qwr7
         ·try simp only [bls] at hc24
          have hok : okR r1 = false := hmk ▸ hc24
          have hrb := rbS_n hok
          conv => whnf
          refine .ct ?_
          conv => whnf
          refine CallG.mk (rb_T _ _ hr1n hr1o) rfl ?_
          conv => whnf
          refine bF (by rw [hrb, eqS_self]; rfl) ?_
          conv => whnf
          refine XT.loop tabX_ok (Y := Nat) [6, 26, 27, 154, 155, 156, 157, 158, 159, 160, 161, 162, 163, 164, 165, 166, 167, 168, 169, 170] (fun m => [(154, .p (.v (.int .i64 (m))) (nlv _))]) (fun m => []) (fun m => m ≤ r1.length) (fun m => r1.length - m) 0 (Nat.zero_le _) ?_ ?_
          ·exact qwr0
          ·rintro m hm
           conv => whnf
           refine bS (fun hc27 => ?_) (fun hc27 => ?_)
           ·try simp only [bls] at hc27
            conv => whnf
            refine IdxG.map (l := r1) m rfl (by first | omega | (simp only [List.length_map] at *; omega)) ?_; intro v1 hv1 hnv1
            conv => whnf
            refine ⟨rfl, ?_⟩
            conv => whnf
            refine .ct ?_
            conv => whnf
            refine CallG.mk (right_X _) rfl ?_
            conv => whnf
            refine bS (fun hc28 => ?_) (fun hc28 => ?_)
            ·try simp only [bls] at hc28
             exact qwr2
            ·try simp only [bls] at hc28
             exact qwr3
           ·try simp only [bls] at hc27
            exact qwr7
     ·try simp only [bls] at hc13
      exact qwr8
end Go.Proofs.YtpgfhkbnngjegaaGreatDoor
