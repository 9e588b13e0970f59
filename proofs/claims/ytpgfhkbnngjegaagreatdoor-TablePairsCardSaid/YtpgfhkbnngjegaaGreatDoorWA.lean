/- Tables made, found, rows told. No condition. -/
import Derived.Test.YtpgfhkbnngjegaaGreatDoorTS
import Derived.Test.YtpgfhkbnngjegaaGreatDoorSrt
import Derived.Test.YtpgfhkbnngjegaaGreatDoorTD
import Derived.Test.YtpgfhkbnngjegaaGreatDoorParR
namespace Go.Proofs.YtpgfhkbnngjegaaGreatDoor
open Go.RowKit Go.Shelf Go.Sort
set_option linter.unusedVariables false
set_option linter.unusedSimpArgs false
theorem sortC : SortC Tryz.prog 127 := ⟨by kernel_rfl, fun α _ enc cf g cb blk cap d w h1 hO hg hc hH hb hs => Any.slices_SortFunc Tryz.sortRows enc h1 cf hO g cb blk 0 cap d w hg hc hH hb hs, fun p cap fv w => AnyF.slices_SortFunc_none { Tryz.sortRows with } p cap fv w⟩
end Go.Proofs.YtpgfhkbnngjegaaGreatDoor

namespace Go.Proofs.YtpgfhkbnngjegaaGreatDoor
open Go.RowKit
set_option linter.unusedVariables false
set_option linter.unusedSimpArgs false
theorem qwa0 {p : Prop} (h : p := by
 refine ⟨?_, ?_, ?_⟩
 ·refine leEnv_app (by kernel_rfl) (by kernel_rfl) ?_
  repeat ((conv => whnf); first | exact True.intro | refine ⟨.rfl, ?_⟩ | refine ⟨.any, ?_⟩ | refine ⟨.nil, ?_⟩ | refine ⟨.int (by first | rfl | omega | (simp only [wrs]; omega)), ?_⟩)
 ·repeat (first | exact LeVs.nil | ((conv => whnf); first | exact True.intro | exact .none | exact .ext | exact .row rfl | refine .cells ?_ | refine ⟨_, _, rfl, .rfl, ?_⟩ | refine ⟨_, _, rfl, .any, ?_⟩ | refine ⟨_, _, rfl, .nil, ?_⟩ | refine ⟨_, _, rfl, .int (by first | rfl | omega | (simp only [wrs]; omega)), ?_⟩ | refine ⟨?_, ?_⟩))
  done
 ·exact LeFr.nil) : p := h
theorem qwa1 {p : Prop} (h : p := by
 conv => whnf
 refine bT (by simp_all; done) ?_
 conv => whnf
 refine FinG.mk none ?_ (by rintro _ ⟨⟩)
 simp only [outs, List.length_map, List.length_append, List.length_take, List.length_drop, List.length_cons, List.length_nil, fr_by1, fr_rw, fr_tb, fr_dc, fr_vl, fr_cl]) : p := h
theorem qwa2 {p : Prop} (h : p := by
 simp only [outs, List.length_map, List.length_append, List.length_take, List.length_drop, List.length_cons, List.length_nil, fr_by1, fr_rw, fr_tb, fr_dc, fr_vl, fr_cl, tblZ, List.map_nil]
 simp; done) : p := h
set_option maxRecDepth 20000
def insT (s : List Tbl) (i : Nat) (t : Tbl) : List Tbl := s.take i ++ [t] ++ s.drop i
/-- What Create makes. -/
def creR (s : List Tbl) (t : Tbl) : List Tbl × Int :=
  if stoB s = true then (if tabB t = true then (if fndB s t.n = true then ([], 5) else if s.length = 4 then ([], 6) else (insT s (fndI s t.n) t, 0)) else ([], 221)) else ([], 220)
theorem cre_cases (s : List Tbl) (t : Tbl) : (stoB s = false ∧ creR s t = ([], 220)) ∨ (stoB s = true ∧ tabB t = false ∧ creR s t = ([], 221)) ∨ (stoB s = true ∧ tabB t = true ∧ fndB s t.n = true ∧ creR s t = ([], 5)) ∨
    (stoB s = true ∧ tabB t = true ∧ fndB s t.n = false ∧ s.length = 4 ∧ creR s t = ([], 6)) ∨ (stoB s = true ∧ tabB t = true ∧ fndB s t.n = false ∧ s.length ≠ 4 ∧ creR s t = (insT s (fndI s t.n) t, 0)) := by
  unfold creR
  cases h1 : stoB s with
  | false => simp
  | true =>
    cases h2 : tabB t with
    | false => simp
    | true =>
      cases h3 : fndB s t.n with
      | true => simp
      | false => by_cases h4 : s.length = 4 <;> simp [h4]
/-- The table of a name; nothing: there is none. -/
def tblZ : Tbl := ⟨⟨#[]⟩, [], []⟩
def fndO (s : List Tbl) (x : ByteArray) : Option Tbl := if stoB s = true ∧ fndB s x = true then s[fndI s x]? else none
theorem fnd_cases (s : List Tbl) (x : ByteArray) : ((thrN s x).2 ≠ 0 ∧ fndO s x = none) ∨ (∃ t, (thrN s x) = ((fndI s x : Int), 0) ∧ stoB s = true ∧ fndB s x = true ∧ s[fndI s x]? = some t ∧ t.n = x ∧ fndO s x = some t) := by
  unfold thrN fndO
  cases h1 : stoB s with
  | false => simp
  | true =>
    cases h2 : fndB s x with
    | false => simp
    | true =>
      have h3 := h2
      unfold fndB at h3
      simp only [Bool.and_eq_true, decide_eq_true_eq] at h3
      have h4 := List.getElem?_eq_getElem h3.1
      refine .inr ⟨_, by simp, rfl, rfl, h4, ?_, by simp [h4]⟩
      have h5 := (bsEq_t _ _).mp h3.2
      rw [nmAt_of h4] at h5
      exact bs_ext h5
def fndT (s : List Tbl) (x : ByteArray) : Tbl := (fndO s x).getD tblZ
theorem fndO_mem {s : List Tbl} {x : ByteArray} {t : Tbl} (h : fndO s x = some t) : stoB s = true ∧ t ∈ s := by
  unfold fndO at h
  split at h
  · rename_i h1; exact ⟨h1.1, List.mem_of_getElem? h⟩
  · cases h
theorem fndT_in {s : List Tbl} (hs : ∀ t ∈ s, t.In) (x : ByteArray) : (fndT s x).In := by
  unfold fndT
  cases h : fndO s x with
  | none => exact ⟨by show 0 ≤ 140737488355328; omega, fun d hd => by simp [tblZ] at hd, by simp [tblZ], fun r hr => by simp [tblZ] at hr, by simp [tblZ]⟩
  | some t => exact hs _ (fndO_mem h).2
/-- The row of a key. -/
def getO (s : List Tbl) (x : ByteArray) (v : Val) : Option (List Val) := (fndT s x).r.find? fun r => eqV (vAt r (keyI (fndT s x).c)) v
theorem fnd_tab {s : List Tbl} {x : ByteArray} {t : Tbl} (h : fndO s x = some t) : TabF t := tab_F ((sto_F (fndO_mem h).1).2 t (fndO_mem h).2)
set_option maxRecDepth 20000 in
theorem create_T (b b1 b2 b3 d d2 d3 : Bool) (s : List Tbl) (t : Tbl) (hs : ∀ t ∈ s, t.In) (hn : s.length ≤ 100000) (ht : t.In) (R : List Tbl × Int) (hR : R = creR s t) : XMeets Tryz.prog 43 [stT b b1 b2 b3 s, tbT d d2 d3 t] (.tu [.ag [.ow 25 3 ((R.1).map (tbC true true true)) (nl_tb _ _ _ _)], .p (.v (.int .i64 (R.2))) (nlv _)]) := by
 refine XMeets.of_X tabX_ok (avs := [.ag [.p (.sl false (s.map (tbC false false false))) (nl_tb _ _ _ _).sl], .ag [.p (.v (.string (t.n))) (nlv _), .p (.sl false (t.c.map dfC)) (nl_dc _).sl, .p (.sl false (t.r.map (rwC false))) (nl_rw _ _).sl]]) [(0, .ag [.p (.sl false (s.map (tbC false false false))) (nl_tb _ _ _ _).sl]), (1, .ag [.p (.v (.string (t.n))) (nlv _), .p (.sl false (t.c.map dfC)) (nl_dc _).sl, .p (.sl false (t.r.map (rwC false))) (nl_rw _ _).sl])] (by kernel_rfl) Tryz.func43 rfl (by simp [PuL, Pu, tbT, stT, tbC, rwC, vlC, dfC, pu_vl, pu_dc, pu_rw, pu_tb]) (by simp only [untagL, untag, tbT, stT, tbC, rwC, vlC, dfC, untag_vl, untag_dc, untag_rw, untag_tb]; rfl) rfl rfl ?_
 intro B w0
 rcases cre_cases s t with ⟨h1, hq⟩ | ⟨h1, h2, hq⟩ | ⟨h1, h2, h3, hq⟩ | ⟨h1, h2, h3, h4, hq⟩ | ⟨h1, h2, h3, h4, hq⟩
 ·rw [hq] at hR
  subst hR
  conv => whnf
  refine .ct ?_
  conv => whnf
  refine CallG.mk (check_T _ _ _ _ _ hs hn) rfl ?_
  conv => whnf
  refine .ct ?_
  conv => whnf
  refine CallG.mk (find_T _ _ _ _ _ _ hs (by first | assumption | omega)) rfl ?_
  conv => whnf
  refine bT (by simp_all; done) ?_
  conv => whnf
  refine bT (by simp_all; done) ?_
  conv => whnf
  refine FinG.mk none ?_ (by rintro _ ⟨⟩)
  simp only [outs, List.length_map, List.length_append, List.length_take, List.length_drop, List.length_cons, List.length_nil, fr_by1, fr_rw, fr_tb, fr_dc, fr_vl, fr_cl]
  and_intros <;> first | rfl | (simp; done) | omega | (simp_all; done) | (simp_all; omega)
 ·rw [hq] at hR
  subst hR
  conv => whnf
  refine .ct ?_
  conv => whnf
  refine CallG.mk (check_T _ _ _ _ _ hs hn) rfl ?_
  conv => whnf
  refine .ct ?_
  conv => whnf
  refine CallG.mk (find_T _ _ _ _ _ _ hs (by first | assumption | omega)) rfl ?_
  conv => whnf
  refine bF (by simp_all; done) ?_
  conv => whnf
  refine .ct ?_
  conv => whnf
  refine CallG.mk (checkT_T _ _ _ _ ht) rfl ?_
  exact qwa1
 ·rw [hq] at hR
  subst hR
  conv => whnf
  refine .ct ?_
  conv => whnf
  refine CallG.mk (check_T _ _ _ _ _ hs hn) rfl ?_
  conv => whnf
  refine .ct ?_
  conv => whnf
  refine CallG.mk (find_T _ _ _ _ _ _ hs (by first | assumption | omega)) rfl ?_
  conv => whnf
  refine bF (by simp_all; done) ?_
  conv => whnf
  refine .ct ?_
  conv => whnf
  refine CallG.mk (checkT_T _ _ _ _ ht) rfl ?_
  conv => whnf
  refine bF (by simp_all; done) ?_
  exact qwa1
 ·rw [hq] at hR
  subst hR
  conv => whnf
  refine .ct ?_
  conv => whnf
  refine CallG.mk (check_T _ _ _ _ _ hs hn) rfl ?_
  conv => whnf
  refine .ct ?_
  conv => whnf
  refine CallG.mk (find_T _ _ _ _ _ _ hs (by first | assumption | omega)) rfl ?_
  conv => whnf
  refine bF (by simp_all; done) ?_
  conv => whnf
  refine .ct ?_
  conv => whnf
  refine CallG.mk (checkT_T _ _ _ _ ht) rfl ?_
  conv => whnf
  refine bF (by simp_all; done) ?_
  conv => whnf
  refine bF (by simp_all; done) ?_
  exact qwa1
 ·rw [hq] at hR
  subst hR
  conv => whnf
  refine .ct ?_
  conv => whnf
  refine CallG.mk (check_T _ _ _ _ _ hs hn) rfl ?_
  conv => whnf
  refine .ct ?_
  conv => whnf
  refine CallG.mk (find_T _ _ _ _ _ _ hs (by first | assumption | omega)) rfl ?_
  conv => whnf
  refine bF (by simp_all; done) ?_
  conv => whnf
  refine .ct ?_
  conv => whnf
  refine CallG.mk (checkT_T _ _ _ _ ht) rfl ?_
  conv => whnf
  refine bF (by simp_all; done) ?_
  conv => whnf
  refine bF (by simp_all; done) ?_
  conv => whnf
  refine bF (decide_eq_false (by rw [List.length_map]; omega)) ?_
  conv => whnf
  refine bF (by simp_all; done) ?_
  conv => whnf
  refine .ct ?_
  conv => whnf
  refine CallG.mk (owned_T _ _ _ _ _ hs (by first | assumption | omega)) rfl ?_
  conv => whnf
  refine RegG.wr 6 1 44 3 (by kernel_rfl) rfl rfl ?_
  conv => whnf
  refine CallG.mk (own_Z _ _ _ _ ht) rfl ?_
  conv => whnf
  refine ⟨_, RowOp.ins insC_tbl (by kernel_rfl) rfl rfl rfl rfl rfl rfl rfl rfl rfl (by rw [List.length_map]; exact fndI_le _ _) (by rw [List.length_map]; omega) (tb_one _ _ _ _) rfl (els' := (insT s (fndI s t.n) t).map (tbC true true true)) (by simp [insT, tbC, List.map_append, List.map_take, List.map_drop]) (nl_tb _ _ _ _), ?_⟩
  conv => whnf
  refine FinG.mk (some 3) ?_ (by rintro _ ⟨⟩; trivial)
  simp only [outs, List.length_map, List.length_append, List.length_take, List.length_drop, List.length_cons, List.length_nil, fr_by1, fr_rw, fr_tb, fr_dc, fr_vl, fr_cl]
theorem fndT_0 {s : List Tbl} {x : ByteArray} (h : fndO s x = none) : fndT s x = tblZ := by rw [fndT, h]; rfl
theorem fndT_1 {s : List Tbl} {x : ByteArray} {t : Tbl} (h : fndO s x = some t) : fndT s x = t := by rw [fndT, h]; rfl
set_option maxRecDepth 20000 in
theorem findT_T (b b1 b2 b3 : Bool) (s : List Tbl) (x : ByteArray) (hs : ∀ t ∈ s, t.In) (hn : s.length ≤ 100000) (R : Tbl) (o : Option Tbl) (ho : o = fndO s x) (hR : R = fndT s x) : XMeets Tryz.prog 70 [stT b b1 b2 b3 s, .v (.string x)] (.tu [.ag [.p (.v (.string (R.n))) (nlv _), .p (.sl true (R.c.map dfC)) (nl_dc _).sl, .ow 38 1 (R.r.map (rwC true)) (nl_rw _ _)], .p (.v (.bool (o.isSome))) (nlv _)]) := by
 refine XMeets.of_X tabX_ok (avs := [.ag [.p (.sl false (s.map (tbC false false false))) (nl_tb _ _ _ _).sl], .p (.v (.string x)) (nlv _)]) [(0, .ag [.p (.sl false (s.map (tbC false false false))) (nl_tb _ _ _ _).sl]), (1, .p (.v (.string x)) (nlv _))] (by kernel_rfl) Tryz.func70 rfl (by simp [PuL, Pu, tbT, stT, tbC, rwC, vlC, dfC, pu_vl, pu_dc, pu_rw, pu_tb]) (by simp only [untagL, untag, tbT, stT, tbC, rwC, vlC, dfC, untag_vl, untag_dc, untag_rw, untag_tb]; rfl) rfl rfl ?_
 intro B w0
 rcases fnd_cases s x with ⟨h1, h2⟩ | ⟨t, h1, h2, h3, h4, h5, h6⟩
 ·rw [h2] at ho
  rw [fndT_0 h2] at hR
  subst hR ho
  conv => whnf
  refine .ct ?_
  conv => whnf
  refine CallG.mk (there_T _ _ _ _ _ _ hs (by first | assumption | omega)) rfl ?_
  conv => whnf
  refine bT (by simp_all; done) ?_
  conv => whnf
  refine FinG.mk none ?_ (by rintro _ ⟨⟩)
  exact qwa2
 ·rw [h6] at ho
  rw [fndT_1 h6] at hR
  subst hR ho
  have hin := hs _ (List.mem_of_getElem? h4)
  have h7 : (thrN s x).2 = 0 := by rw [h1]
  conv => whnf
  refine .ct ?_
  conv => whnf
  refine CallG.mk (there_T _ _ _ _ _ _ hs (by first | assumption | omega)) rfl ?_
  conv => whnf
  refine bF (by simp_all; done) ?_
  conv => whnf
  refine IdxG.mk (j := fndI s x) (c := tbC false false false R) (by rw [List.getElem?_map, h4]; rfl) (by rw [h1]) ?_
  conv => whnf
  refine ⟨rfl, ?_⟩
  conv => whnf
  refine .ct ?_
  conv => whnf
  refine CallG.mk (own_T _ _ _ _ hin) rfl ?_
  conv => whnf
  refine FinG.mk (some 2) ?_ (by rintro _ ⟨⟩; trivial)
  exact qwa2
theorem getO_t {s : List Tbl} {x : ByteArray} {v : Val} {k : Nat} {r : List Val} (h : noP (fun r => eqV (vAt r (keyI (fndT s x).c)) v) (fndT s x).r k) (hr : (fndT s x).r[k]? = some r) (h1 : eqV (vAt r (keyI (fndT s x).c)) v = true) : getO s x v = some r := by
  unfold getO
  obtain ⟨hk, rfl⟩ := List.getElem?_eq_some_iff.1 hr
  rw [List.find?_eq_some_iff_getElem]
  exact ⟨h1, k, hk, rfl, fun j hj => by have := h j _ hj (List.getElem?_eq_getElem (by omega)); simp [this]⟩
theorem getO_f {s : List Tbl} {x : ByteArray} {v : Val} {k : Nat} (h : noP (fun r => eqV (vAt r (keyI (fndT s x).c)) v) (fndT s x).r k) (h1 : ((fndT s x).r.length : Int) ≤ k) : getO s x v = none := by
  unfold getO
  rw [List.find?_eq_none]
  intro r hr
  obtain ⟨j, hj, rfl⟩ := List.getElem_of_mem hr
  have := h j _ (by omega) (List.getElem?_eq_getElem hj)
  simp [this]
theorem fndT_some {s : List Tbl} {x : ByteArray} {k : Nat} {r : List Val} (h : (fndT s x).r[k]? = some r) : ∃ t, fndO s x = some t := by
  cases h1 : fndO s x with
  | some t => exact ⟨t, rfl⟩
  | none => rw [fndT_0 h1] at h; simp [tblZ] at h
set_option maxRecDepth 20000 in
theorem get_T (b b1 b2 b3 : Bool) (s : List Tbl) (x : ByteArray) (v : Val) (hs : ∀ t ∈ s, t.In) (hn : s.length ≤ 100000) (R : List Val) (o : Bool) (ho : o = (getO s x v).isSome) (hR : R = (getO s x v).getD []) : XMeets Tryz.prog 46 [stT b b1 b2 b3 s, .v (.string x), valT v] (.tu [.p (.sl true (R.map vlC)) (nl_vl _).sl, .p (.v (.bool (o))) (nlv _)]) := by
 refine XMeets.of_X tabX_ok (avs := [.ag [.p (.sl false (s.map (tbC false false false))) (nl_tb _ _ _ _).sl], .p (.v (.string x)) (nlv _), valY v]) [(0, .ag [.p (.sl false (s.map (tbC false false false))) (nl_tb _ _ _ _).sl]), (1, .p (.v (.string x)) (nlv _)), (2, valY v)] (by kernel_rfl) Tryz.func46 rfl (by simp [PuL, Pu, tbT, stT, tbC, rwC, vlC, dfC, pu_vl, pu_dc, pu_rw, pu_tb, valT]) (by simp only [untagL, untag, tbT, stT, tbC, rwC, vlC, dfC, valT, untag_vl, untag_dc, untag_rw, untag_tb]; rfl) rfl rfl ?_
 intro B w0
 have hin := fndT_in hs x
 have hrn := hin.rn
 have hcn := hin.cn
 conv => whnf
 refine .ct ?_
 conv => whnf
 refine CallG.mk (findT_T _ _ _ _ _ _ hs hn _ _ rfl rfl) rfl ?_
 conv => whnf
 refine .ct ?_
 conv => whnf
 refine CallG.mk (key_T _ _ _ _ hcn) rfl ?_
 conv => whnf
 refine XT.loop tabX_ok (Y := Nat) [6, 7, 13, 28, 29, 30, 31, 32, 33, 34, 35, 36, 37, 38, 39, 40, 41, 42] (fun k => [(28, .p (.v (.int .i64 (k))) (nlv _))]) (fun k => []) (fun k => k ≤ (fndT s x).r.length ∧ noP (fun r => eqV (vAt r (keyI (fndT s x).c)) v) (fndT s x).r k) (fun k => (fndT s x).r.length - k) 0 ⟨Nat.zero_le _, noP_0⟩ ?_ ?_
 ·exact qwa0
 ·rintro k ⟨hk, hP⟩
  conv => whnf
  refine bS (fun hc1 => ?_) (fun hc1 => ?_)
  ·try simp only [bls] at hc1
   conv => whnf
   refine ⟨_, rfl, ?_⟩
   conv => whnf
   refine ⟨by simp only [bls]; omega, ?_⟩
   conv => whnf
   refine IdxG.map (l := (fndT s x).r) k rfl (by first | omega | (simp only [List.length_map] at *; omega)) ?_; intro r1 hr1 hnr1; have hm1 := List.mem_of_getElem? hr1; obtain ⟨t, ht⟩ := fndT_some hr1; have hF := fnd_tab ht; have htt := fndT_1 ht; have hky := key_at hF (htt ▸ hm1); rw [← htt] at hky; have hk0 := hF.k0; rw [← htt] at hk0; obtain ⟨v1, hv1⟩ : ∃ v1, r1[(keyI (fndT s x).c).toNat]? = some v1 := ⟨_, List.getElem?_eq_getElem hky⟩; have hsm : (fndO s x).isSome = true := by rw [ht]; rfl
   conv => whnf
   refine RegG.par 9 (by kernel_rfl) ?_
   conv => whnf
   refine bT (by simp_all; done) ?_
   conv => whnf
   refine bT (by simp_all; done) ?_
   conv => whnf
   refine bT (by simp_all; done) ?_
   conv => whnf
   refine IdxG.mk (j := (keyI (fndT s x).c).toNat) (c := vlC v1) (by rw [List.getElem?_map, hv1]; rfl) (by omega) ?_
   conv => whnf
   refine ⟨rfl, ?_⟩
   conv => whnf
   refine bT (by simp_all; done) ?_
   conv => whnf
   refine bT (by simp_all; done) ?_
   conv => whnf
   refine bT (by simp_all; done) ?_
   conv => whnf
   refine BinG.mk rfl rfl (eqVal_run _ _ _ _ _ _ _ _) ?_
   conv => whnf
   refine bT (by simp_all; done) ?_
   conv => whnf
   refine bS (fun hc2 => ?_) (fun hc2 => ?_)
   ·try simp only [bls] at hc2
    conv => whnf
    refine FinG.mk none ?_ (by rintro _ ⟨⟩)
    simp only [outs, List.length_map, List.length_append, List.length_take, List.length_drop, List.length_cons, List.length_nil, fr_by1, fr_rw, fr_tb, fr_dc, fr_vl, fr_cl, tblZ, List.map_nil]
    rw [hR, ho, getO_t hP hr1 (by rw [vAt_of hv1]; first | assumption | simp_all)]
    simp
   ·try simp only [bls] at hc2
    conv => whnf
    refine ⟨(k + 1), ⟨by omega, noP_s hP hr1 (by rw [vAt_of hv1]; first | assumption | simp_all)⟩, by omega, ?_⟩
    exact qwa0
  ·try simp only [bls] at hc1
   conv => whnf
   refine FinG.mk none ?_ (by rintro _ ⟨⟩)
   simp only [outs, List.length_map, List.length_append, List.length_take, List.length_drop, List.length_cons, List.length_nil, fr_by1, fr_rw, fr_tb, fr_dc, fr_vl, fr_cl, tblZ, List.map_nil]
   rw [hR, ho, getO_f hP (by omega)]
   simp
end Go.Proofs.YtpgfhkbnngjegaaGreatDoor
