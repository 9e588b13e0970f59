/- The rule for a region that draws its order, over any relation of worlds that the operations keep. No condition. -/
import Derived.Test.YtpgfhkbnngjegaaGreatDoorTE
import Derived.Test.YtpgfhkbnngjegaaGreatDoorPar
namespace Go.Proofs.YtpgfhkbnngjegaaGreatDoor
open Go.RowKit
set_option linter.unusedVariables false
set_option linter.unusedSimpArgs false
theorem qw90 {p : Prop} (h : p := by
 refine ⟨?_, ?_, ?_⟩
 ·refine leEnv_app (by kernel_rfl) (by kernel_rfl) ?_
  repeat ((conv => whnf); first | exact True.intro | refine ⟨.rfl, ?_⟩ | refine ⟨.any, ?_⟩ | refine ⟨.nil, ?_⟩ | refine ⟨.int (by first | rfl | omega | (simp only [wrs]; omega)), ?_⟩ | refine ⟨.tv (by first | rfl | (simp only [List.length_map]; done) | (rw [hw, wz.1 _ (by omega) (by omega)]; exact congrArg (fun z => TV.v (Value.int IntKind.i64 z)) (by omega)) | (rw [hw]; done)), ?_⟩)
 ·repeat (first | exact LeVs.nil | ((conv => whnf); first | exact True.intro | exact .none | exact .ext | exact .row rfl | refine .cells ?_ | refine ⟨_, _, rfl, .rfl, ?_⟩ | refine ⟨_, _, rfl, .any, ?_⟩ | refine ⟨_, _, rfl, .nil, ?_⟩ | refine ⟨_, _, rfl, .int (by first | rfl | omega | (simp only [wrs]; omega)), ?_⟩ | refine ⟨_, _, rfl, .tv (by first | rfl | (simp only [List.length_map]; done) | (rw [hw, wz.1 _ (by omega) (by omega)]; exact congrArg (fun z => TV.v (Value.int IntKind.i64 z)) (by omega)) | (rw [hw]; done)), ?_⟩ | refine ⟨?_, ?_⟩))
  done
 ·exact LeFr.same (by kernel_rfl)) : p := h
theorem qw91 {p : Prop} (h : p := by
 refine leEnv_app (by kernel_rfl) (by kernel_rfl) ?_
 repeat ((conv => whnf); first | exact True.intro | refine ⟨.rfl, ?_⟩ | refine ⟨.any, ?_⟩ | refine ⟨.nil, ?_⟩ | refine ⟨.int (by first | rfl | omega | (simp only [wrs]; omega)), ?_⟩)) : p := h
theorem qw92 {p : Prop} (h : p := by
 conv => whnf
 refine FinG.mk none ?_ (by rintro _ ⟨⟩)
 simp only [outs, List.length_map, List.length_append, List.length_take, List.length_drop, List.length_cons, List.length_nil, fr_by1, fr_rw, fr_tb, fr_dc, fr_vl]
 simp_all [thrN]) : p := h
theorem qw93 {p : Prop} (h : p := by
 refine ⟨?_, ?_, ?_⟩
 ·exact qw91
 ·repeat (first | exact LeVs.nil | ((conv => whnf); first | exact True.intro | exact .none | exact .ext | exact .row rfl | refine .cells ?_ | refine ⟨_, _, rfl, .rfl, ?_⟩ | refine ⟨_, _, rfl, .any, ?_⟩ | refine ⟨_, _, rfl, .nil, ?_⟩ | refine ⟨_, _, rfl, .int (by first | rfl | omega | (simp only [wrs]; omega)), ?_⟩ | refine ⟨?_, ?_⟩))
  done
 ·exact LeFr.nil) : p := h
theorem qw94 {p : Prop} (h : p := by
 simp only [outs, List.length_map, List.length_append, List.length_take, List.length_drop, List.length_cons, List.length_nil, fr_by1, fr_rw, fr_tb, fr_dc, fr_vl]
 simp; done) : p := h
set_option maxRecDepth 20000
/-- Rows of which the first are in memory of their own. -/
def mixR (l : List (List Val)) (k : Nat) : List (List TV) := (l.take k).map (rwC true) ++ (l.drop k).map (rwC false)
theorem nl_mix (l : List (List Val)) (k : Nat) : NlLL (mixR l k) := (nl_rw _ _).append (nl_rw _ _)
theorem mix_e {l : List (List Val)} {k : Nat} (h : l.length ≤ k) : mixR l k = l.map (rwC true) := by
  unfold mixR
  rw [List.take_of_length_le h, List.drop_eq_nil_of_le h]
  simp
theorem mix_e2 {l : List (List Val)} {k : Nat} (h1 : k ≤ l.length) (h : (l.length : Int) ≤ k) : mixR l k = l.map (rwC true) := mix_e (by omega)
theorem mix_len {l : List (List Val)} {k : Nat} (h : k ≤ l.length) : (mixR l k).length = l.length := by simp [mixR]; omega
theorem mix_at {l : List (List Val)} {k : Nat} {r : List Val} (h : l[k]? = some r) : (mixR l k)[k]? = some (rwC false r) := by
  obtain ⟨hk, rfl⟩ := List.getElem?_eq_some_iff.1 h
  unfold mixR
  rw [List.getElem?_append_right (by simp; omega)]
  simp only [List.length_map, List.length_take, Nat.min_eq_left (Nat.le_of_lt hk), Nat.sub_self]
  simp [hk]
theorem mix_set {l : List (List Val)} {k : Nat} {r : List Val} (h : l[k]? = some r) : (mixR l k).set k (rwC true r) = mixR l (k + 1) := by
  obtain ⟨hk, rfl⟩ := List.getElem?_eq_some_iff.1 h
  unfold mixR
  rw [List.set_append_right _ _ (by simp; omega)]
  simp only [List.length_map, List.length_take, Nat.min_eq_left (Nat.le_of_lt hk), Nat.sub_self]
  rw [List.drop_eq_getElem_cons hk, List.take_succ_eq_append_getElem hk, List.map_append, List.map_cons, List.set_cons_zero]
  simp
/-- Tables of which the first are in memory of their own. -/
def mixT (l : List Tbl) (k : Nat) : List (List TV) := (l.take k).map (tbC true true true) ++ (l.drop k).map (tbC false false false)
theorem nl_mixT (l : List Tbl) (k : Nat) : NlLL (mixT l k) := (nl_tb _ _ _ _).append (nl_tb _ _ _ _)
theorem mixT_0 (l : List Tbl) : mixT l 0 = l.map (tbC false false false) := by simp [mixT]
theorem mixT_e2 {l : List Tbl} {k : Nat} (h1 : k ≤ l.length) (h : (l.length : Int) ≤ k) : mixT l k = l.map (tbC true true true) := by
  have h : l.length ≤ k := by omega
  unfold mixT
  rw [List.take_of_length_le h, List.drop_eq_nil_of_le h]
  simp
theorem mixT_len {l : List Tbl} {k : Nat} (h : k ≤ l.length) : (mixT l k).length = l.length := by simp [mixT]; omega
theorem mixT_at {l : List Tbl} {k : Nat} {r : Tbl} (h : l[k]? = some r) : (mixT l k)[k]? = some (tbC false false false r) := by
  obtain ⟨hk, rfl⟩ := List.getElem?_eq_some_iff.1 h
  unfold mixT
  rw [List.getElem?_append_right (by simp; omega)]
  simp only [List.length_map, List.length_take, Nat.min_eq_left (Nat.le_of_lt hk), Nat.sub_self]
  simp [hk]
theorem mixT_set {l : List Tbl} {k : Nat} {r : Tbl} (h : l[k]? = some r) : (mixT l k).set k (tbC true true true r) = mixT l (k + 1) := by
  obtain ⟨hk, rfl⟩ := List.getElem?_eq_some_iff.1 h
  unfold mixT
  rw [List.set_append_right _ _ (by simp; omega)]
  simp only [List.length_map, List.length_take, Nat.min_eq_left (Nat.le_of_lt hk), Nat.sub_self]
  rw [List.drop_eq_getElem_cons hk, List.take_succ_eq_append_getElem hk, List.map_append, List.map_cons, List.set_cons_zero]
  simp
set_option maxRecDepth 20000 in
theorem copied_T (b b2 : Bool) (l : List (List Val)) (hn : l.length ≤ 100000) (hv : ∀ r ∈ l, r.length ≤ 100000) : XMeets Tryz.prog 123 [.sl b (l.map (rwC b2))] (.ow 38 1 (l.map (rwC true)) (nl_rw _ _)) := by
 refine XMeets.of_X tabX_ok (avs := [.p (.sl false (l.map (rwC false))) (nl_rw _ _).sl]) [(0, .p (.sl false (l.map (rwC false))) (nl_rw _ _).sl)] (by kernel_rfl) Tryz.func123 rfl (by simp [PuL, Pu, tbT, stT, tbC, rwC, vlC, dfC, pu_vl, pu_dc, pu_rw, pu_tb]) (by simp only [untagL, untag, tbT, stT, tbC, rwC, vlC, dfC, untag_vl, untag_dc, untag_rw, untag_tb]; rfl) rfl rfl ?_
 intro B w0
 conv => whnf
 refine .ct ?_
 conv => whnf
 refine .cl (els := l.map (rwC false)) (nl_rw _ _) clone_row rfl (rw_len _ _) (rw_one _ _) (by simp only [List.length_map]; omega) ?_
 conv => whnf
 refine XT.loop tabX_ok (Y := Nat) [0, 3, 5, 6, 8, 9, 10, 11, 12, 13, 14, 15, 16, 17, 18, 19] (fun k => [(8, .p (.v (.int .i64 (k))) (nlv _)), (0, .row 0)]) (fun k => [(0, .row 38 1 (mixR l k) (nl_mix _ _))]) (fun k => k ≤ l.length) (fun k => l.length - k) 0 (Nat.zero_le _) ?_ ?_
 ·exact qw93
 ·rintro k hk
  have hml := mix_len hk
  conv => whnf
  refine bS (fun hc1 => ?_) (fun hc1 => ?_)
  ·try simp only [bls] at hc1
   conv => whnf
   refine ⟨_, rfl, ?_⟩
   conv => whnf
   refine ⟨by omega, ?_⟩
   conv => whnf
   obtain ⟨r1, hr1⟩ : ∃ x, l[k]? = some x := ⟨_, List.getElem?_eq_getElem (by omega)⟩; refine IdxG.mk (j := k) (c := rwC false r1) (mix_at hr1) rfl ?_
   conv => whnf
   refine .ct ?_
   conv => whnf
   refine .cl (els := r1.map vlC) (nl_vl _) clone_val rfl (vl_len _) (vl_one _) (by have := hv _ (List.mem_of_getElem? hr1); simp only [List.length_map]; omega) ?_
   conv => whnf
   refine ⟨_, rfl, ?_⟩
   conv => whnf
   refine ⟨by omega, ?_⟩
   conv => whnf
   refine IdxG.mk (j := k) (c := rwC false r1) (mix_at hr1) rfl ?_
   conv => whnf
   refine ⟨rfl, ?_⟩
   conv => whnf
   refine ⟨(k + 1), by omega, by omega, ?_⟩
   refine ⟨?_, ?_, ?_⟩
   ·exact qw91
   ·repeat (first | exact LeVs.nil | ((conv => whnf); first | exact True.intro | exact .none | exact .ext | exact .row rfl | exact .row ((mix_set hr1)) | refine .cells ?_ | refine ⟨_, _, rfl, .rfl, ?_⟩ | refine ⟨_, _, rfl, .any, ?_⟩ | refine ⟨_, _, rfl, .nil, ?_⟩ | refine ⟨_, _, rfl, .int (by first | rfl | omega | (simp only [wrs]; omega)), ?_⟩ | refine ⟨?_, ?_⟩))
    done
   ·exact LeFr.nil
  ·try simp only [bls] at hc1
   conv => whnf
   refine FinG.mk (some 0) ?_ (by rintro _ ⟨⟩; trivial)
   simp only [outs, List.length_map, List.length_append, List.length_take, List.length_drop, List.length_cons, List.length_nil, fr_by1, fr_rw, fr_tb, fr_dc, fr_vl]
   rw [mix_e2 hk (by omega)]
set_option maxRecDepth 20000 in
theorem own_T (b b2 b3 : Bool) (t : Tbl) (ht : t.In) : XMeets Tryz.prog 85 [tbT b b2 b3 t] (.ag [.p (.v (.string (t.n))) (nlv _), .p (.sl true (t.c.map dfC)) (nl_dc _).sl, .ow 38 1 (t.r.map (rwC true)) (nl_rw _ _)]) := by
 refine XMeets.of_X tabX_ok (avs := [.ag [.p (.v (.string (t.n))) (nlv _), .p (.sl false (t.c.map dfC)) (nl_dc _).sl, .p (.sl false (t.r.map (rwC false))) (nl_rw _ _).sl]]) [(0, .ag [.p (.v (.string (t.n))) (nlv _), .p (.sl false (t.c.map dfC)) (nl_dc _).sl, .p (.sl false (t.r.map (rwC false))) (nl_rw _ _).sl])] (by kernel_rfl) Tryz.func85 rfl (by simp [PuL, Pu, tbT, stT, tbC, rwC, vlC, dfC, pu_vl, pu_dc, pu_rw, pu_tb]) (by simp only [untagL, untag, tbT, stT, tbC, rwC, vlC, dfC, untag_vl, untag_dc, untag_rw, untag_tb]; rfl) rfl rfl ?_
 intro B w0
 conv => whnf
 refine RegG.par 7 (by kernel_rfl) ?_
 conv => whnf
 refine .cl (els := t.c.map dfC) (nl_dc _) clone_dfn rfl (dc_len _) (dc_one _) (by have := ht.cn; simp only [List.length_map]; omega) ?_
 conv => whnf
 refine CallG.mk (copied_T _ _ _ ht.rn (fun r hr => (ht.r r hr).1)) rfl ?_
 conv => whnf
 refine FinG.mk (some 3) ?_ (by rintro _ ⟨⟩; trivial)
 exact qw94
set_option maxRecDepth 20000 in
theorem own_Z (b b2 b3 : Bool) (t : Tbl) (ht : t.In) : XMeets Tryz.prog 85 [tbT b b2 b3 t] (.ag [.p (.v (.string (t.n))) (nlv _), .p (.sl true (t.c.map dfC)) (nl_dc _).sl, .p (.sl true (t.r.map (rwC true))) (nl_rw _ _).sl]) := by
 refine XMeets.of_X tabX_ok (avs := [.ag [.p (.v (.string (t.n))) (nlv _), .p (.sl false (t.c.map dfC)) (nl_dc _).sl, .p (.sl false (t.r.map (rwC false))) (nl_rw _ _).sl]]) [(0, .ag [.p (.v (.string (t.n))) (nlv _), .p (.sl false (t.c.map dfC)) (nl_dc _).sl, .p (.sl false (t.r.map (rwC false))) (nl_rw _ _).sl])] (by kernel_rfl) Tryz.func85 rfl (by simp [PuL, Pu, tbT, stT, tbC, rwC, vlC, dfC, pu_vl, pu_dc, pu_rw, pu_tb]) (by simp only [untagL, untag, tbT, stT, tbC, rwC, vlC, dfC, untag_vl, untag_dc, untag_rw, untag_tb]; rfl) rfl rfl ?_
 intro B w0
 conv => whnf
 refine RegG.par 7 (by kernel_rfl) ?_
 conv => whnf
 refine .cl (els := t.c.map dfC) (nl_dc _) clone_dfn rfl (dc_len _) (dc_one _) (by have := ht.cn; simp only [List.length_map]; omega) ?_
 conv => whnf
 refine CallG.mk (copied_T _ _ _ ht.rn (fun r hr => (ht.r r hr).1)) rfl ?_
 conv => whnf
 refine FinG.mk none ?_ (by rintro _ ⟨⟩)
 exact qw94
set_option maxRecDepth 20000 in
theorem owned_T (b b1 b2 b3 : Bool) (s : List Tbl) (hs : ∀ t ∈ s, t.In) (hn : s.length ≤ 100000) : XMeets Tryz.prog 83 [stT b b1 b2 b3 s] (.ag [.ow 25 3 (s.map (tbC true true true)) (nl_tb _ _ _ _)]) := by
 refine XMeets.of_X tabX_ok (avs := [.ag [.p (.sl false (s.map (tbC false false false))) (nl_tb _ _ _ _).sl]]) [(0, .ag [.p (.sl false (s.map (tbC false false false))) (nl_tb _ _ _ _).sl])] (by kernel_rfl) Tryz.func83 rfl (by simp [PuL, Pu, tbT, stT, tbC, rwC, vlC, dfC, pu_vl, pu_dc, pu_rw, pu_tb]) (by simp only [untagL, untag, tbT, stT, tbC, rwC, vlC, dfC, untag_vl, untag_dc, untag_rw, untag_tb]; rfl) rfl rfl ?_
 intro B w0
 conv => whnf
 refine .ct ?_
 conv => whnf
 refine .cl (els := s.map (tbC false false false)) (nl_tb _ _ _ _) clone_tbl rfl (tb_len _ _ _ _) (tb_one _ _ _ _) (by simp only [List.length_map]; omega) ?_
 conv => whnf
 refine XT.loop tabX_ok (Y := Nat) [3, 6, 9, 11, 12, 13, 14, 15, 16, 17, 18, 19, 20, 21, 22, 23, 24] (fun k => [(11, .p (.v (.int .i64 (k))) (nlv _))]) (fun k => [(2, .row 25 3 (mixT s k) (nl_mixT _ _))]) (fun k => k ≤ s.length) (fun k => s.length - k) 0 (Nat.zero_le _) ?_ ?_
 ·exact qw93
 ·rintro k hk
  have hml := mixT_len hk
  conv => whnf
  refine bS (fun hc1 => ?_) (fun hc1 => ?_)
  ·try simp only [bls] at hc1
   conv => whnf
   refine RegG.par 10 (by kernel_rfl) ?_
   conv => whnf
   refine ⟨_, rfl, ?_⟩
   conv => whnf
   refine ⟨by omega, ?_⟩
   conv => whnf
   obtain ⟨t1, ht1⟩ : ∃ x, s[k]? = some x := ⟨_, List.getElem?_eq_getElem (by omega)⟩; have hin1 := hs _ (List.mem_of_getElem? ht1); refine IdxG.mk (j := k) (c := tbC false false false t1) (mixT_at ht1) rfl ?_
   conv => whnf
   refine CallG.mk (own_T _ _ _ _ (by assumption)) rfl ?_
   conv => whnf
   refine ⟨_, rfl, ?_⟩
   conv => whnf
   refine ⟨by omega, ?_⟩
   conv => whnf
   refine IdxG.mk (j := k) (c := tbC false false false t1) (mixT_at ht1) rfl ?_
   conv => whnf
   refine ⟨rfl, ?_⟩
   conv => whnf
   refine ⟨(k + 1), by omega, by omega, ?_⟩
   refine ⟨?_, ?_, ?_⟩
   ·exact qw91
   ·repeat (first | exact LeVs.nil | ((conv => whnf); first | exact True.intro | exact .none | exact .ext | exact .row rfl | exact .row ((mixT_set ht1)) | refine .cells ?_ | refine ⟨_, _, rfl, .rfl, ?_⟩ | refine ⟨_, _, rfl, .any, ?_⟩ | refine ⟨_, _, rfl, .nil, ?_⟩ | refine ⟨_, _, rfl, .int (by first | rfl | omega | (simp only [wrs]; omega)), ?_⟩ | refine ⟨?_, ?_⟩))
    done
   ·exact LeFr.nil
  ·try simp only [bls] at hc1
   conv => whnf
   refine FinG.mk (some 2) ?_ (by rintro _ ⟨⟩; trivial)
   simp only [outs, List.length_map, List.length_append, List.length_take, List.length_drop, List.length_cons, List.length_nil, fr_by1, fr_rw, fr_tb, fr_dc, fr_vl]
   rw [mixT_e2 hk (by omega)]
set_option maxRecDepth 20000 in
theorem find1_T (b b2 b3 : Bool) (t : Tbl) (x : ByteArray) : XMeets Tryz.prog 117 [tbT b b2 b3 t, .v (.string x)] (.p (.v (.int .i64 (cmpS (bs t.n) (bs x)))) (nlv _)) := by
 refine XMeets.of_X tabX_ok (avs := [.ag [.p (.v (.string (t.n))) (nlv _), .p (.sl false (t.c.map dfC)) (nl_dc _).sl, .p (.sl false (t.r.map (rwC false))) (nl_rw _ _).sl], .p (.v (.string x)) (nlv _)]) [(0, .ag [.p (.v (.string (t.n))) (nlv _), .p (.sl false (t.c.map dfC)) (nl_dc _).sl, .p (.sl false (t.r.map (rwC false))) (nl_rw _ _).sl]), (1, .p (.v (.string x)) (nlv _))] (by kernel_rfl) Tryz.func117 rfl (by simp [PuL, Pu, tbT, stT, tbC, rwC, vlC, dfC, pu_vl, pu_dc, pu_rw, pu_tb]) (by simp only [untagL, untag, tbT, stT, tbC, rwC, vlC, dfC, untag_vl, untag_dc, untag_rw, untag_tb]; rfl) rfl rfl ?_
 intro B w0
 conv => whnf
 refine .ct ?_
 conv => whnf
 refine CallG.mk (scmp_X _ _) rfl ?_
 conv => whnf
 refine FinG.mk none ?_ (by rintro _ ⟨⟩)
 simp only [outs, List.length_map, List.length_append, List.length_take, List.length_drop, List.length_cons, List.length_nil, fr_by1, fr_rw, fr_tb, fr_dc, fr_vl]
theorem half_w {i j : Nat} (h : i + j ≤ 200000) : IntKind.i64.wrap ((IntKind.u64.wrap ((i : Int) + j)).fdiv (2 ^ min (Int.toNat 1) IntKind.u64.bits)) = (((i + j) / 2 : Nat) : Int) := by
  rw [show IntKind.u64.wrap ((i : Int) + j) = (i : Int) + j from wz.2.1 _ (by omega) (by omega), show (2 : Int) ^ min (Int.toNat 1) IntKind.u64.bits = 2 from by decide, Int.fdiv_eq_ediv_of_nonneg _ (by omega), show ((i : Int) + j) / 2 = (((i + j) / 2 : Nat) : Int) by omega]
  exact wz.1 _ (by omega) (by omega)
theorem fndB_t {s : List Tbl} {x : ByteArray} {t : Tbl} (h : s[fndI s x]? = some t) (h2 : cmpS (bs t.n) (bs x) = 0) : fndB s x = true := by
  unfold fndB
  rw [decide_eq_true (List.getElem?_eq_some_iff.1 h).1, nmAt_of h, Bool.true_and, bsEq_t]
  exact cmpS_0.1 h2
theorem fndB_f {s : List Tbl} {x : ByteArray} {t : Tbl} (h : s[fndI s x]? = some t) (h2 : ¬ cmpS (bs t.n) (bs x) = 0) : fndB s x = false := by
  unfold fndB
  rw [nmAt_of h, show bsEq t.n x = false by rw [bsEq_f]; exact fun e => h2 (cmpS_0.2 e), Bool.and_false]
theorem fndB_d {s : List Tbl} {x : ByteArray} {t : Tbl} (h : s[fndI s x]? = some t) : decide (cmpS (bs t.n) (bs x) = 0) = fndB s x := by
  by_cases h2 : cmpS (bs t.n) (bs x) = 0
  · rw [fndB_t h h2, decide_eq_true h2]
  · rw [fndB_f h h2, decide_eq_false h2]
theorem fndB_e {s : List Tbl} {x : ByteArray} (h : (s.length : Int) ≤ fndI s x) : fndB s x = false := by
  unfold fndB
  rw [decide_eq_false (by omega), Bool.false_and]
set_option maxRecDepth 20000 in
theorem find_T (b b1 b2 b3 : Bool) (s : List Tbl) (x : ByteArray) (hs : ∀ t ∈ s, t.In) (hn : s.length ≤ 100000) : XMeets Tryz.prog 82 [stT b b1 b2 b3 s, .v (.string x)] (.tu [.p (.v (.int .i64 (fndI s x))) (nlv _), .p (.v (.bool (fndB s x))) (nlv _)]) := by
 refine XMeets.of_X tabX_ok (avs := [.ag [.p (.sl false (s.map (tbC false false false))) (nl_tb _ _ _ _).sl], .p (.v (.string x)) (nlv _)]) [(0, .ag [.p (.sl false (s.map (tbC false false false))) (nl_tb _ _ _ _).sl]), (1, .p (.v (.string x)) (nlv _))] (by kernel_rfl) Tryz.func82 rfl (by simp [PuL, Pu, tbT, stT, tbC, rwC, vlC, dfC, pu_vl, pu_dc, pu_rw, pu_tb]) (by simp only [untagL, untag, tbT, stT, tbC, rwC, vlC, dfC, untag_vl, untag_dc, untag_rw, untag_tb]; rfl) rfl rfl ?_
 intro B w0
 conv => whnf
 refine .inl ?_
 conv => whnf
 refine InlG.mk (by kernel_rfl) Tryz.func116 rfl (Nat.le_of_ble_eq_true rfl) (XT.of tabX_ok ?_)
 conv => whnf
 refine XT.loop tabX_ok (Y := Nat × Nat) [9, 10, 11, 15, 16, 17, 18, 19, 20, 21, 22, 23, 24, 25, 26, 27, 28, 29, 30, 31, 32, 33, 34] (fun (i, j) => [(9, .p (.v (.int .i64 (i))) (nlv _)), (10, .p (.v (.int .i64 (j))) (nlv _))]) (fun (i, j) => []) (fun (i, j) => i ≤ j ∧ j ≤ s.length ∧ fndR s x i j = fndI s x) (fun (i, j) => j - i) (0, s.length) ⟨Nat.zero_le _, Nat.le_refl _, rfl⟩ ?_ ?_
 ·exact qw90
 ·rintro ⟨i, j⟩ ⟨hij, hj, hR⟩
  conv => whnf
  refine bS (fun hc1 => ?_) (fun hc1 => ?_)
  ·try simp only [bls] at hc1
   conv => whnf
   rw [show IntKind.i64.wrap ((↑i : Int) + (↑j : Int)) = ((↑i : Int) + (↑j : Int)) from wz.1 _ (by omega) (by omega)]
   have hw := half_w (i := i) (j := j) (by omega); refine IdxG.map (l := s) ((i + j) / 2) hw (by first | omega | (simp only [List.length_map] at *; omega)) ?_; intro t1 ht1 hnt1
   conv => whnf
   refine ⟨rfl, ?_⟩
   conv => whnf
   refine .ct ?_
   conv => whnf
   refine CallG.mk (find1_T _ _ _ _ _) rfl ?_
   conv => whnf
   refine bS (fun hc2 => ?_) (fun hc2 => ?_)
   ·try simp only [bls] at hc2
    conv => whnf
    refine ⟨((i + j) / 2 + 1, j), ⟨by omega, by omega, (fndR_t (by omega) (by rw [nmAt_of ht1]; exact ltS_0.1 (by assumption))).trans hR⟩, (by show j - ((i + j) / 2 + 1) < j - i; omega), ?_⟩
    exact qw90
   ·try simp only [bls] at hc2
    conv => whnf
    refine ⟨(i, (i + j) / 2), ⟨by omega, by omega, (fndR_f (by omega) (by rw [nmAt_of ht1]; exact eq_false_of_ne_true fun h9 => by have := ltS_0.2 h9; omega)).trans hR⟩, (by show (i + j) / 2 - i < j - i; omega), ?_⟩
    exact qw90
  ·try simp only [bls] at hc1
   conv => whnf
   refine bS (fun hc3 => ?_) (fun hc3 => ?_)
   ·try simp only [bls] at hc3
    conv => whnf
    refine bT (by simp_all; done) ?_
    conv => whnf
    refine bT (by simp_all; done) ?_
    conv => whnf
    refine bT (by simp_all; done) ?_
    conv => whnf
    have hie : i = fndI s x := (fndR_e (by omega)).symm.trans hR; refine IdxG.map (l := s) i rfl (by first | omega | (simp only [List.length_map] at *; omega)) ?_; intro t1 ht1 hnt1; rw [hie] at ht1
    conv => whnf
    refine ⟨rfl, ?_⟩
    conv => whnf
    refine bT (by simp_all; done) ?_
    conv => whnf
    refine bT (by simp_all; done) ?_
    conv => whnf
    refine bT (by simp_all; done) ?_
    conv => whnf
    refine .ct ?_
    conv => whnf
    refine CallG.mk (find1_T _ _ _ _ _) rfl ?_
    conv => whnf
    refine bT (by simp_all; done) ?_
    conv => whnf
    refine bT (by simp_all; done) ?_
    conv => whnf
    refine ⟨.inr rfl, ?_⟩
    conv => whnf
    refine FinG.mk none ?_ (by rintro _ ⟨⟩)
    simp only [outs, List.length_map, List.length_append, List.length_take, List.length_drop, List.length_cons, List.length_nil, fr_by1, fr_rw, fr_tb, fr_dc, fr_vl]
    exact ⟨by rw [hie], by rw [fndB_d ht1]⟩
   ·try simp only [bls] at hc3
    conv => whnf
    refine bF (by simp_all; done) ?_
    conv => whnf
    refine bF (by simp_all; done) ?_
    conv => whnf
    refine bF (by simp_all; done) ?_
    conv => whnf
    refine bF (by simp_all; done) ?_
    conv => whnf
    refine bF (by simp_all; done) ?_
    conv => whnf
    refine bF (by simp_all; done) ?_
    conv => whnf
    refine bF (by simp_all; done) ?_
    conv => whnf
    refine bF (by simp_all; done) ?_
    conv => whnf
    refine ⟨.inr rfl, ?_⟩
    conv => whnf
    refine FinG.mk none ?_ (by rintro _ ⟨⟩)
    simp only [outs, List.length_map, List.length_append, List.length_take, List.length_drop, List.length_cons, List.length_nil, fr_by1, fr_rw, fr_tb, fr_dc, fr_vl]
    have hie : i = fndI s x := (fndR_e (by omega)).symm.trans hR
    exact ⟨by rw [hie], by rw [fndB_e (by omega)]⟩
def thrN (s : List Tbl) (x : ByteArray) : Int × Int := if stoB s = true then (if fndB s x = true then (fndI s x, 0) else (0, 4)) else (0, 220)
set_option maxRecDepth 20000 in
theorem there_T (b b1 b2 b3 : Bool) (s : List Tbl) (x : ByteArray) (hs : ∀ t ∈ s, t.In) (hn : s.length ≤ 100000) : XMeets Tryz.prog 86 [stT b b1 b2 b3 s, .v (.string x)] (.tu [.p (.v (.int .i64 ((thrN s x).1))) (nlv _), .p (.v (.int .i64 ((thrN s x).2))) (nlv _)]) := by
 refine XMeets.of_X tabX_ok (avs := [.ag [.p (.sl false (s.map (tbC false false false))) (nl_tb _ _ _ _).sl], .p (.v (.string x)) (nlv _)]) [(0, .ag [.p (.sl false (s.map (tbC false false false))) (nl_tb _ _ _ _).sl]), (1, .p (.v (.string x)) (nlv _))] (by kernel_rfl) Tryz.func86 rfl (by simp [PuL, Pu, tbT, stT, tbC, rwC, vlC, dfC, pu_vl, pu_dc, pu_rw, pu_tb]) (by simp only [untagL, untag, tbT, stT, tbC, rwC, vlC, dfC, untag_vl, untag_dc, untag_rw, untag_tb]; rfl) rfl rfl ?_
 intro B w0
 conv => whnf
 refine .ct ?_
 conv => whnf
 refine CallG.mk (check_T _ _ _ _ _ hs hn) rfl ?_
 conv => whnf
 refine bS (fun hc1 => ?_) (fun hc1 => ?_)
 ·try simp only [bls] at hc1
  exact qw92
 ·try simp only [bls] at hc1
  conv => whnf
  refine .ct ?_
  conv => whnf
  refine CallG.mk (find_T _ _ _ _ _ _ hs (by first | assumption | omega)) rfl ?_
  conv => whnf
  refine bS (fun hc2 => ?_) (fun hc2 => ?_)
  ·try simp only [bls] at hc2
   exact qw92
  ·try simp only [bls] at hc2
   exact qw92
end Go.Proofs.YtpgfhkbnngjegaaGreatDoor

namespace Go.Proofs.YtpgfhkbnngjegaaGreatDoor
open Go.RowKit

section
variable {R : World → World → Prop} {P : Program} {ops : Array Oper} {Q : Exit → Act → World → Prop}

/-- What a step of a region is asked: whatever the slots of those that it does not wait for hold. -/
def StepParR (R : World → World → Prop) (P : Program) (ops : Array Oper) (Q : Exit → Act → World → Prop) (a0 : Act) (w0 : World) (ds : List Tmp) (al : Nat → Bool) (Φ : Nat → Value → World → Prop) (i : Nat) (o : Oper) : Prop :=
  ∀ (x : Nat → Value) (w : World), R w0 w → (∀ e ∈ o.after.toList, Region.binds .any e = true → Φ e.on (x e.on) w) →
    ∀ K : Act → World → Prop, (∀ v w', Φ i v w' → R w w' → (al i = true → ∀ g, ptrBlock v = some g → w.heap.size ≤ g ∧ g < w'.heap.size) → K ((frameOf a0 ds x).put o.dst v) w') →
      if Region.wanted o (yielded ops (frameOf a0 ds x).tmps) = true then o.wp P (frameOf a0 ds x) w K Q else K ((frameOf a0 ds x).put o.dst undef) w

def StepsParR (R : World → World → Prop) (P : Program) (ops : Array Oper) (Q : Exit → Act → World → Prop) (a0 : Act) (w0 : World) (ds : List Tmp) (al : Nat → Bool) (Φ : Nat → Value → World → Prop) : List Oper → Nat → Prop
  | [], _ => True
  | o :: l, i => StepParR R P ops Q a0 w0 ds al Φ i o ∧ StepsParR R P ops Q a0 w0 ds al Φ l (i + 1)

theorem stepsParR_at {a0 : Act} {w0 : World} {ds : List Tmp} {al : Nat → Bool} {Φ : Nat → Value → World → Prop} : ∀ (l : List Oper) (k i : Nat) (o : Oper), StepsParR R P ops Q a0 w0 ds al Φ l k → l[i]? = some o → StepParR R P ops Q a0 w0 ds al Φ (k + i) o
  | [], _, _, _, _, h => by simp at h
  | o' :: l, k, 0, o, h, ho => by
    simp only [List.getElem?_cons_zero, Option.some.injEq] at ho
    subst ho
    exact h.1
  | o' :: l, k, i + 1, o, h, ho => by
    have := stepsParR_at l (k + 1) i o h.2 (by simpa using ho)
    rwa [show k + 1 + i = k + (i + 1) by omega] at this

theorem wpAny_parR {l : List Oper} {a : Act} {w : World} (n : Nat) (ds : List Tmp) (al : Nat → Bool) (Φ : Nat → Value → World → Prop) (hrefl : R w w.drew) (htrans : ∀ a b c, R a b → R b c → R a c) (hsize : ∀ a b : World, R a b → a.heap.size ≤ b.heap.size) (hm : P.follows .mixedOrders = true)
    (hB : (backB l.toArray && decide (n ≤ l.length) && dstsB (l.take n) ds) = true)
    (hno : ∀ listed, HeadInv .any l.toArray n listed → (∃ i, i < n ∧ listed.getD i true = false) → ∀ t, n ≤ t → t ∉ Region.ready .any l.toArray listed)
    (hstab : ∀ i v w1 w2, Φ i v w1 → R w1 w2 → Φ i v w2)
    (hsteps : StepsParR R P l.toArray Q a w ds al Φ (l.take n) 0)
    (hfin : ∀ (x : Nat → Value) (w' : World), R w w' → (∀ i, i < n → Φ i (x i) w') → (∀ i j, i < n → j < n → al i = true → al j = true → i ≠ j → ∀ g, ptrBlock (x i) = some g → ptrBlock (x j) ≠ some g) → wpAny P .any l.toArray Q (l.length - n) (headOf n l.length) (frameOf a ds x) w') :
    wpAny P .any l.toArray Q l.toArray.size (Array.replicate l.toArray.size false) a w.drew := by
  simp only [Bool.and_eq_true, decide_eq_true_eq, dstsB] at hB
  obtain ⟨⟨hb, hn⟩, hds, hnd⟩ := hB
  have hlen : ds.length = n := by
    have := congrArg List.length hds
    simp at this
    omega
  have inv0 : HeadInv .any l.toArray n (Array.replicate l.toArray.size false) :=
    ⟨by simp, fun j oj _ hl => (by rw [getD_replicate_false] at hl; cases hl), fun t _ ht => getD_in (by simpa using ht) (getD_replicate_false _ _)⟩
  have hn' : n ≤ l.toArray.size := by simpa using hn
  have key := wpAny_inv (P := P) (ops := l.toArray) (Q := Q) (n := n) hb hn' hno
    (fun listed a' w' => R w w' ∧ ∃ x : Nat → Value, a' = frameOf a ds x ∧ (∀ i, i < n → listed.getD i false = true → Φ i (x i) w') ∧ (∀ i, i < n → listed.getD i false = true → al i = true → ∀ g, ptrBlock (x i) = some g → g < w'.heap.size) ∧ (∀ i j, i < n → j < n → listed.getD i false = true → listed.getD j false = true → al i = true → al j = true → i ≠ j → ∀ g, ptrBlock (x i) = some g → ptrBlock (x j) ≠ some g))
    (fun listed a' w' i inv hI hi hl hdeps => by
      obtain ⟨hbw, x, rfl, hx, hlt, hne⟩ := hI
      have hil : i < l.length := by omega
      have ho : l.toArray[i]? = some l[i] := by simp [hil]
      have hst := stepsParR_at (l.take n) 0 i l[i] hsteps (by simp [hi, hil])
      rw [Nat.zero_add] at hst
      have hd : (l[i]).dst = some (ds[i]'(by omega)) := by
        have h1 : ((l.take n).map (·.dst))[i]? = (ds.map some)[i]? := by rw [hds]
        simp [hi, hil, show i < ds.length by omega] at h1
        exact h1
      have hds2 : ds[i]? = some (ds[i]'(by omega)) := by simp [show i < ds.length by omega]
      refine wpOp_step ho fun K hK => hst x w' hbw (fun e he hbe => hx e.on (by have := backB_spec hb ho e (by simpa using he) hbe; omega) (hdeps _ ho e (by simpa using he) hbe)) K (fun v w'' hv hb2 hfr => ?_)
      refine hK _ _ ⟨htrans _ _ _ hbw hb2, upd x i v, ?_, fun j hj hlj => ?_, fun j hj hlj haj g hg => ?_, fun j k hj hk hlj hlk haj hak hjk g hgj hgk => ?_⟩
      · rw [hd]
        unfold frameOf Act.put
        simp only
        have := slots_put x v ds 0 i a.tmps _ hnd hds2
        rw [Nat.zero_add] at this
        rw [this]
      · unfold upd
        by_cases hji : j = i
        · subst hji; rw [if_pos rfl]; exact hv
        · rw [if_neg hji]
          rw [getD_set_ne false (fun e => hji e.symm)] at hlj
          exact hstab j _ _ _ (hx j hj hlj) hb2
      · unfold upd at hg
        by_cases hji : j = i
        · subst hji; rw [if_pos rfl] at hg; exact (hfr haj g hg).2
        · rw [if_neg hji] at hg
          rw [getD_set_ne false (fun e => hji e.symm)] at hlj
          exact Nat.lt_of_lt_of_le (hlt j hj hlj haj g hg) (hsize _ _ hb2)
      · unfold upd at hgj hgk
        by_cases hji : j = i
        · have hki : ¬ k = i := fun e => hjk (hji.trans e.symm)
          subst hji
          rw [if_pos rfl] at hgj
          rw [if_neg hki] at hgk
          rw [getD_set_ne false (fun e => hki e.symm)] at hlk
          have h1 := (hfr haj g hgj).1
          have h2 := hlt k hk hlk hak g hgk
          omega
        · rw [if_neg hji] at hgj
          rw [getD_set_ne false (fun e => hji e.symm)] at hlj
          by_cases hki : k = i
          · subst hki
            rw [if_pos rfl] at hgk
            have h1 := (hfr hak g hgk).1
            have h2 := hlt j hj hlj haj g hgj
            omega
          · rw [if_neg hki] at hgk
            rw [getD_set_ne false (fun e => hki e.symm)] at hlk
            exact hne j k hj hk hlj hlk haj hak hjk g hgj hgk)
    (fun listed a' w' inv hall hI => by
      obtain ⟨hbw, x, rfl, hx, hlt, hne⟩ := hI
      have := headOf_eq hn' inv hall
      subst this
      have hl : ∀ i, i < n → (headOf n l.toArray.size).getD i false = true := fun i hi => by
        have h1 := hall i hi
        have h2 : i < (headOf n l.toArray.size).size := by rw [inv.size]; omega
        simp only [Array.getD, h2, dite_true] at h1 ⊢
        exact h1
      have := hfin x w' hbw (fun i hi => hx i hi (hl i hi)) (fun i j hi hj hai haj hij => hne i j hi hj (hl i hi) (hl j hj) hai haj hij)
      simpa using this)
    (leftOf n (Array.replicate l.toArray.size false)) _ a w.drew inv0 rfl
    ⟨hrefl, fun i => a.tmps.getD (ds.getD i 0) undef, by unfold frameOf; rw [slots_self]; intro j d hj; simp [hj], fun i _ hl => by (rw [getD_replicate_false] at hl; cases hl), fun i _ hl => by (rw [getD_replicate_false] at hl; cases hl), fun i _ _ _ hl => by (rw [getD_replicate_false] at hl; cases hl)⟩
  have hleft : leftOf n (Array.replicate l.toArray.size false) = n := by
    unfold leftOf
    rw [List.filter_eq_self.2]
    · simp
    · intro i hi
      rw [List.mem_range] at hi
      have : i < l.length := by omega
      simp [this]
  rw [hleft, show n + (l.toArray.size - n) = l.toArray.size by omega] at key
  exact key
theorem wp_region_parR {id : Nat} {l : List Oper} {a : Act} {w : World} (n : Nat) (ds : List Tmp) (al : Nat → Bool) (Φ : Nat → Value → World → Prop) (hrefl : R w w.drew) (htrans : ∀ a b c, R a b → R b c → R a c) (hsize : ∀ a b : World, R a b → a.heap.size ≤ b.heap.size) (hm : P.follows .mixedOrders = true)
    (hB : (backB l.toArray && decide (n ≤ l.length) && dstsB (l.take n) ds) = true)
    (hno : ∀ listed, HeadInv .any l.toArray n listed → (∃ i, i < n ∧ listed.getD i true = false) → ∀ t, n ≤ t → t ∉ Region.ready .any l.toArray listed)
    (hstab : ∀ i v w1 w2, Φ i v w1 → R w1 w2 → Φ i v w2)
    (hsteps : StepsParR R P l.toArray Q a w ds al Φ (l.take n) 0)
    (hfin : ∀ (x : Nat → Value) (w' : World), R w w' → (∀ i, i < n → Φ i (x i) w') → (∀ i j, i < n → j < n → al i = true → al j = true → i ≠ j → ∀ g, ptrBlock (x i) = some g → ptrBlock (x j) ≠ some g) → wpAny P .any l.toArray Q (l.length - n) (headOf n l.length) (frameOf a ds x) w') :
    (Code.region id l.toArray true).wp P Q a w := wp_region_any hm (wpAny_parR n ds al Φ hrefl htrans hsize hm hB hno hstab hsteps hfin)
end

section
variable {R : World → World → Prop} {P : Program} {Q : Exit → Act → World → Prop} {id : Nat} {l : List Oper} {a : Act} {w : World}
/-- All operations keep one another's facts. -/
theorem wp_region_parR_all (n : Nat) (ds : List Tmp) (al : Nat → Bool) (Φ : Nat → Value → World → Prop) (hrefl : R w w.drew) (htrans : ∀ a b c, R a b → R b c → R a c) (hsize : ∀ a b : World, R a b → a.heap.size ≤ b.heap.size) (hm : P.follows .mixedOrders = true) (hB : (backB l.toArray && decide (n = l.length) && dstsB l ds) = true)
    (hstab : ∀ i v w1 w2, Φ i v w1 → R w1 w2 → Φ i v w2)
    (hsteps : StepsParR R P l.toArray Q a w ds al Φ l 0)
    (hfin : ∀ (x : Nat → Value) (w' : World), R w w' → (∀ i, i < n → Φ i (x i) w') → (∀ i j, i < n → j < n → al i = true → al j = true → i ≠ j → ∀ g, ptrBlock (x i) = some g → ptrBlock (x j) ≠ some g) → Q .normal (frameOf a ds x) w') :
    (Code.region id l.toArray true).wp P Q a w := by
  simp only [Bool.and_eq_true, decide_eq_true_eq] at hB
  obtain ⟨⟨hb, rfl⟩, hd⟩ := hB
  refine wp_region_parR l.length ds al Φ hrefl htrans hsize hm (by simp [hb, hd]) (fun listed _ _ t ht hr => ?_) hstab (by simpa using hsteps) (fun x w' hb hx hne => ?_)
  · obtain ⟨_, o, ho, _⟩ := mem_ready.1 hr
    have := (Array.getElem?_eq_some_iff.1 ho).1
    simp at this
    omega
  · rw [Nat.sub_self]
    refine ⟨?_, hfin x w' hb hx hne⟩
    rw [List.eq_nil_iff_forall_not_mem]
    intro t hr
    obtain ⟨hl, o, ho, _⟩ := mem_ready.1 hr
    have := (Array.getElem?_eq_some_iff.1 ho).1
    have hlt : t < l.length := by simpa using this
    have hg : (headOf l.length l.length)[t]? = some true := by simp [headOf, List.getElem?_replicate, hlt]
    rw [Array.getD_eq_getD_getElem?] at hl
    simp only [List.size_toArray, hg, Option.getD_some] at hl
    cases hl
end
end Go.Proofs.YtpgfhkbnngjegaaGreatDoor
