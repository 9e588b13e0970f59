/- Rows that a drawn region builds and that are written no more. Condition: what the program's table says of types. -/
import Derived.Test.YtpgfhkbnngjegaaGreatDoorWA
import Derived.Test.YtpgfhkbnngjegaaGreatDoorU28
namespace Go.Proofs.YtpgfhkbnngjegaaGreatDoor
open Go.RowKit
set_option linter.unusedVariables false
set_option linter.unusedSimpArgs false
theorem qwb0 {p : Prop} (h : p := by
 refine ⟨?_, ?_, ?_⟩
 ·refine leEnv_app (by kernel_rfl) (by kernel_rfl) ?_
  repeat ((conv => whnf); first | exact True.intro | refine ⟨.rfl, ?_⟩ | refine ⟨.any, ?_⟩ | refine ⟨.nil, ?_⟩ | refine ⟨.int (by first | rfl | omega | (simp only [wrs]; omega)), ?_⟩)
 ·repeat (first | exact LeVs.nil | ((conv => whnf); first | exact True.intro | exact .none | exact .ext | exact .row rfl | exact .rowF rfl rfl rfl | exact .rowF (mixT_0 _).symm rfl (mixT_0 _).symm | exact .rowF (mixT_set (take_at ht1 hk)) rfl rfl | exact .rowF (by rw [mixT_e2 (by rw [List.length_take]; omega) (by rw [List.length_take]; omega)]) rfl (by rw [show k + 1 - fndI s x - 1 = 0 by omega]) | exact .rowF rfl rfl (by rw [show k + 1 - fndI s x - 1 = k - fndI s x - 1 + 1 by omega]; exact mixT_set (drop_at ht1 hk0.1)) | refine .cells ?_ | refine ⟨_, _, rfl, .rfl, ?_⟩ | refine ⟨_, _, rfl, .any, ?_⟩ | refine ⟨_, _, rfl, .nil, ?_⟩ | refine ⟨_, _, rfl, .int (by first | rfl | omega | (simp only [wrs]; omega)), ?_⟩ | refine ⟨?_, ?_⟩))
  done
 ·exact LeFr.same (by kernel_rfl)) : p := h
theorem qwb1 {p : Prop} (h : p := by
 refine ⟨?_, ?_, ?_⟩
 ·refine leEnv_app (by kernel_rfl) (by kernel_rfl) ?_
  repeat ((conv => whnf); first | exact True.intro | refine ⟨.rfl, ?_⟩ | refine ⟨.any, ?_⟩ | refine ⟨.nil, ?_⟩ | refine ⟨.int (by first | rfl | omega | (simp only [wrs]; omega)), ?_⟩)
 ·repeat (first | exact LeVs.nil | ((conv => whnf); first | exact True.intro | exact .none | exact .ext | exact .row rfl | exact .rowF rfl rfl rfl | refine .cells ?_ | refine ⟨_, _, rfl, .rfl, ?_⟩ | refine ⟨_, _, rfl, .any, ?_⟩ | refine ⟨_, _, rfl, .nil, ?_⟩ | refine ⟨_, _, rfl, .int (by first | rfl | omega | (simp only [wrs]; omega)), ?_⟩ | refine ⟨?_, ?_⟩))
  done
 ·exact LeFr.same (by kernel_rfl)) : p := h
theorem qwb2 {p : Prop} (h : p := by
 conv => whnf
 refine FinG.mk none ?_ (by rintro _ ⟨⟩)
 simp only [outs, List.length_map, List.length_append, List.length_take, List.length_drop, List.length_cons, List.length_nil, fr_by1, fr_rw, fr_tb, fr_dc, fr_vl, fr_cl, tblZ, List.map_nil]) : p := h
theorem qwb3 {p : Prop} (h : p := by
 conv => whnf
 refine ⟨(q + 1), ⟨by omega, (by first | exact noEq_s hN (by omega) ha0 ha1 (by first | assumption | omega) | exact noEq_z (by omega))⟩, by omega, ?_⟩
 exact qwb1) : p := h
theorem qwb4 {p : Prop} (h : p := by
 conv => whnf
 refine ⟨(Sum.inr (k + 1)), (show fndI s x < k + 1 ∧ k + 1 ≤ s.length by omega), (show s.length - (k + 1) < s.length - k by omega), ?_⟩
 exact qwb0) : p := h
set_option maxRecDepth 20000
def tbR (t : Tbl) (p : List (List Val)) : Tbl := ⟨t.n, t.c, p⟩
/-- What comes of rows put to those of a table (stay), or in their place. -/
def filR (s : List Tbl) (x : ByteArray) (l : List (List Val)) (stay : Bool) : List Tbl × Int := match fndO s x with
  | none => ([], (thrN s x).2)
  | some t => if l.all (rowB t.c) = true then (match putL (keyI t.c) (if stay = true then t.r else []) l with
    | none => ([], 5)
    | some p => if p.length ≤ 40 then (s.set (fndI s x) (tbR t p), 0) else ([], 6)) else ([], 222)
theorem fil_0 {s : List Tbl} {x : ByteArray} {l : List (List Val)} {stay : Bool} (h : fndO s x = none) : filR s x l stay = ([], (thrN s x).2) := by rw [filR, h]
theorem fil_r {s : List Tbl} {x : ByteArray} {l : List (List Val)} {stay : Bool} {t : Tbl} (h : fndO s x = some t) (h1 : l.all (rowB t.c) = false) : filR s x l stay = ([], 222) := by rw [filR, h]; simp [h1]
theorem fil_n {s : List Tbl} {x : ByteArray} {l : List (List Val)} {stay : Bool} {t : Tbl} (h : fndO s x = some t) (h1 : l.all (rowB t.c) = true) (h2 : putL (keyI t.c) (if stay = true then t.r else []) l = none) : filR s x l stay = ([], 5) := by rw [filR, h]; simp [h1, h2]
theorem fil_f {s : List Tbl} {x : ByteArray} {l p : List (List Val)} {stay : Bool} {t : Tbl} (h : fndO s x = some t) (h1 : l.all (rowB t.c) = true) (h2 : putL (keyI t.c) (if stay = true then t.r else []) l = some p) (h3 : (40 : Int) < p.length) : filR s x l stay = ([], 6) := by rw [filR, h]; simp [h1, h2, show ¬ p.length ≤ 40 by omega]
theorem fil_t {s : List Tbl} {x : ByteArray} {l p : List (List Val)} {stay : Bool} {t : Tbl} (h : fndO s x = some t) (h1 : l.all (rowB t.c) = true) (h2 : putL (keyI t.c) (if stay = true then t.r else []) l = some p) (h3 : (p.length : Int) ≤ 40) : filR s x l stay = (s.set (fndI s x) (tbR t p), 0) := by rw [filR, h]; simp [h1, h2, show p.length ≤ 40 by omega]
theorem foc_eq {s : List Tbl} {i : Nat} {t : Tbl} (b b2 b3 : Bool) (h : s[i]? = some t) : s.map (tbC b b2 b3) = (s.take i).map (tbC b b2 b3) ++ tbC b b2 b3 t :: (s.drop (i + 1)).map (tbC b b2 b3) := by
  obtain ⟨hk, rfl⟩ := List.getElem?_eq_some_iff.1 h
  rw [← List.map_cons, ← List.map_append, ← List.drop_eq_getElem_cons hk, List.take_append_drop]
theorem set_eq {s : List Tbl} {i : Nat} {t t2 : Tbl} (b b2 b3 : Bool) (h : s[i]? = some t) : (s.set i t2).map (tbC b b2 b3) = (s.take i).map (tbC b b2 b3) ++ tbC b b2 b3 t2 :: (s.drop (i + 1)).map (tbC b b2 b3) := by
  obtain ⟨hk, rfl⟩ := List.getElem?_eq_some_iff.1 h
  rw [List.set_eq_take_append_cons_drop, if_pos hk, List.map_append, List.map_cons]
theorem take_at {s : List Tbl} {i k : Nat} {t : Tbl} (h : s[k]? = some t) (hk : k < i) : (s.take i)[k]? = some t := by rw [List.getElem?_take_of_lt hk, h]
theorem drop_at {s : List Tbl} {i k : Nat} {t : Tbl} (h : s[k]? = some t) (hk : i < k) : (s.drop (i + 1))[k - i - 1]? = some t := by rw [List.getElem?_drop, show i + 1 + (k - i - 1) = k by omega, h]
theorem all_of {c : List Dfn} {l : List (List Val)} {k : Nat} (h : noP (fun r => !rowB c r) l k) (hk : (l.length : Int) ≤ k) : l.all (rowB c) = true := by
  rw [List.all_eq_true]
  intro r hr
  obtain ⟨j, hj, rfl⟩ := List.getElem_of_mem hr
  have := h j _ (by omega) (List.getElem?_eq_getElem hj)
  simpa using this
theorem all_no {c : List Dfn} {l : List (List Val)} {k : Nat} {r : List Val} (h : l[k]? = some r) (h1 : rowB c r = false) : l.all (rowB c) = false := by
  rw [List.all_eq_false]
  exact ⟨r, List.mem_of_getElem? h, by simp [h1]⟩
theorem swo_key (key : Int) : Sort.SWO (ltOf fun a b : List Val => cmpV (vAt a key) (vAt b key)) := by
  refine ⟨fun x => ?_, fun x y z h h2 => ?_, fun x y z h h2 => ?_⟩ <;> unfold ltOf at *
  · exact decide_eq_false (cmpV_irr _)
  · simp only [decide_eq_true_eq] at *
    exact cmpV_trans h h2
  · simp only [decide_eq_false_iff_not] at *
    intro h3
    by_cases h4 : vAt x key = vAt y key
    · rw [h4] at h3; exact h2 h3
    · exact h2 (cmpV_trans (cmpV_tri h h4) h3)
theorem noEq_z {key : Int} {l : List (List Val)} {q : Nat} (h : q = 0) : noEq key l (q + 1) := by subst h; exact noEq_1 _
theorem rows_rise {s : List Tbl} {x : ByteArray} {t : Tbl} (h : fndO s x = some t) : Rise (keyI t.c) t.r := by
  have h1 := (sto_F (fndO_mem h).1).2 t (fndO_mem h).2
  unfold tabB at h1
  simp only [Bool.and_eq_true, decide_eq_true_eq] at h1
  exact (rowsB_iff2.1 h1.2).2
theorem vAt_get {r : List Val} {i : Int} (h0 : 0 ≤ i) (h1 : i < r.length) : r[i.toNat]? = some (vAt r i) := by
  unfold vAt
  have : i.toNat < r.length := by omega
  rw [List.getElem?_eq_getElem this]; rfl
theorem cmp_by {c : List Dfn} {L : List (List Val)} (h0 : 0 ≤ keyI c) (h1 : keyI c < c.length) (hw : ∀ r ∈ L, rowB c r = true) (C : Cx) (x y : List Val) (u v : Value) (gk : Nat) (hx : x ∈ L) (hy : y ∈ L) (hu : Dn C (.sl true (x.map vlC)) u) (hv : Dn C (.sl true (y.map vlC)) v)
    (hk : C.w.cell? ⟨gk, 0, none⟩ = some (.int .i64 (max (keyI c) 0))) : Calls Tryz.prog 126 #[u, v, .pointer (some ⟨gk, 0, none⟩)] C.w fun e w' => e = .returned (.int .i64 (cmpV (vAt x (keyI c)) (vAt y (keyI c)))) ∧ GQ C.w w' := by
  rw [show max (keyI c) 0 = ((keyI c).toNat : Int) by omega] at hk
  have hlx := rowB_len (hw x hx)
  have hly := rowB_len (hw y hy)
  exact byQ (keyI c).toNat C x y _ _ u v gk (vAt_get h0 (by omega)) (vAt_get h0 (by omega)) hu hv hk
theorem row_all {c : List Dfn} {l : List (List Val)} (h : l.all (rowB c) = true) {m : List (List Val)} (hm : ∀ r ∈ m, rowB c r = true) : ∀ r ∈ m ++ l, rowB c r = true := fun r hr => (List.mem_append.1 hr).elim (hm r) (List.all_eq_true.1 h r)
set_option maxRecDepth 20000 in
theorem by_T (b b2 : Bool) (x y : List Val) (k : Int) (v0 v1 : Val) (h0 : 0 ≤ k) (hx : x[k.toNat]? = some v0) (hy : y[k.toNat]? = some v1) : XMeets Tryz.prog 126 [.sl b (x.map vlC), .sl b2 (y.map vlC), .eptr [.v (.int .i64 k)]] (.p (.v (.int .i64 (cmpV v0 v1))) (nlv _)) := by
 refine XMeets.of_X tabX_ok (avs := [.p (.sl false (x.map vlC)) (nl_vl _).sl, .p (.sl false (y.map vlC)) (nl_vl _).sl, .p (.eptr [.v (.int .i64 k)]) (NlL.cons (nlv _) .nil).eptr]) [(0, .p (.sl false (x.map vlC)) (nl_vl _).sl), (1, .p (.sl false (y.map vlC)) (nl_vl _).sl), (2, .p (.eptr [.v (.int .i64 k)]) (NlL.cons (nlv _) .nil).eptr)] (by kernel_rfl) Tryz.func126 rfl (by simp [PuL, Pu, tbT, stT, tbC, rwC, vlC, dfC, pu_vl, pu_dc, pu_rw, pu_tb]) (by simp only [untagL, untag, tbT, stT, tbC, rwC, vlC, dfC, untag_vl, untag_dc, untag_rw, untag_tb]; rfl) rfl rfl ?_
 intro B w0
 conv => whnf
 refine RegG.par 10 (by kernel_rfl) ?_
 conv => whnf
 refine IdxG.mk (j := k.toNat) (c := vlC v0) (by rw [List.getElem?_map, hx]; rfl) (by omega) ?_
 conv => whnf
 refine ⟨rfl, ?_⟩
 conv => whnf
 refine IdxG.mk (j := k.toNat) (c := vlC v1) (by rw [List.getElem?_map, hy]; rfl) (by omega) ?_
 conv => whnf
 refine ⟨rfl, ?_⟩
 conv => whnf
 refine CallG.mk (compare_X _ _) rfl ?_
 exact qwb2
set_option maxHeartbeats 4000000 in
set_option maxRecDepth 20000 in
theorem fillS_T (b b1 b2 b3 d d2 : Bool) (s : List Tbl) (x : ByteArray) (l : List (List Val)) (hs : ∀ t ∈ s, t.In) (hn : s.length ≤ 100000) (hl : l.length ≤ 100000) (hlr : ∀ r ∈ l, r.length ≤ 100000) (R : List Tbl × Int) (hR : R = filR s x l true) : XMeets Tryz.prog 88 [stT b b1 b2 b3 s, .v (.string x), .sl d (l.map (rwC d2)), .v (.bool true)] (.tu [.ag [.ow 25 3 ((R.1).map (tbC true true true)) (nl_tb _ _ _ _)], .p (.v (.int .i64 (R.2))) (nlv _)]) := by
 refine XMeets.of_XM [(20, .p (.v (.bool true)) (nlv _))] tabX_ok (avs := [.ag [.p (.sl false (s.map (tbC false false false))) (nl_tb _ _ _ _).sl], .p (.v (.string x)) (nlv _), .p (.sl false (l.map (rwC false))) (nl_rw _ _).sl, .p (.v (.bool true)) (nlv _)]) [(0, .ag [.p (.sl false (s.map (tbC false false false))) (nl_tb _ _ _ _).sl]), (1, .p (.v (.string x)) (nlv _)), (2, .p (.sl false (l.map (rwC false))) (nl_rw _ _).sl), (3, .p (.v (.bool true)) (nlv _))] (by kernel_rfl) Tryz.func88 rfl (by simp [PuL, Pu, tbT, stT, tbC, rwC, vlC, dfC, pu_vl, pu_dc, pu_rw, pu_tb]) (by simp only [untagL, untag, tbT, stT, tbC, rwC, vlC, dfC, untag_vl, untag_dc, untag_rw, untag_tb]; rfl) rfl rfl ?_
 intro B w0
 rcases fnd_cases s x with ⟨h1, h2⟩ | ⟨t, h1, h2, h3, h4, h5, h6⟩
 ·rw [fil_0 h2] at hR
  subst hR
  conv => whnf
  refine .ct ?_
  conv => whnf
  refine CallG.mk (there_T _ _ _ _ _ _ hs (by first | assumption | omega)) rfl ?_
  conv => whnf
  refine bT (by simp_all; done) ?_
  exact qwb2
 ·have hF := fnd_tab h6
  have hFr := hF.r
  have hin := hs _ (List.mem_of_getElem? h4)
  have h7 : (thrN s x).2 = 0 := by rw [h1]
  have h8 : (thrN s x).1 = (fndI s x : Int) := by rw [h1]
  have hIl := (List.getElem?_eq_some_iff.1 h4).1
  conv => whnf
  refine .ct ?_
  conv => whnf
  refine CallG.mk (there_T _ _ _ _ _ _ hs (by first | assumption | omega)) rfl ?_
  conv => whnf
  refine bF (by simp_all; done) ?_
  conv => whnf
  refine .inl ?_
  conv => whnf
  refine InlG.mk (by kernel_rfl) Tryz.func83 rfl (Nat.le_of_ble_eq_true rfl) (XT.of tabX_ok ?_)
  conv => whnf
  refine .ct ?_
  conv => whnf
  refine .cl (els := s.map (tbC false false false)) (nl_tb _ _ _ _) clone_tbl rfl (tb_len _ _ _ _) (tb_one _ _ _ _) (by simp only [List.length_map]; omega) ?_
  conv => whnf
  refine XT.foc 4 ((s.take (fndI s x)).map (tbC false false false)) (tbC false false false t) ((s.drop (fndI s x + 1)).map (tbC false false false)) (nl_tb _ _ _ _) (nl_tb1 _ _ _ _) (nl_tb _ _ _ _) rfl (foc_eq _ _ _ h4) ?_
  conv => whnf
  refine XT.loopN tabX_ok (Y := Nat ⊕ Nat) [3, 6, 9, 11, 12, 13, 14, 15, 16, 17, 18, 19, 20, 21, 22, 23, 24] (fun y => [(11, match y with | .inl k => .p (.v (.int .i64 ((k : Int)))) (nlv _) | .inr k => .p (.v (.int .i64 ((k : Int)))) (nlv _))]) (fun y => [(4, match y with | .inl k => .rowF 25 3 (mixT (s.take (fndI s x)) k) (nl_mixT _ _) [.p (.v (.string (t.n))) (nlv _), .p (.sl false (t.c.map dfC)) (nl_dc _).sl, .p (.sl false (t.r.map (rwC false))) (nl_rw _ _).sl] (mixT (s.drop (fndI s x + 1)) 0) (nl_mixT _ _) | .inr k => .rowF 25 3 ((s.take (fndI s x)).map (tbC true true true)) (nl_tb _ _ _ _) [.p (.v (.string (t.n))) (nlv _), .p (.sl true (t.c.map dfC)) (nl_dc _).sl, .row 5] (mixT (s.drop (fndI s x + 1)) (k - fndI s x - 1)) (nl_mixT _ _))]) (fun y => match y with | .inl _ => [] | .inr _ => [.row 38 1 (t.r.map (rwC true)) (nl_rw _ _)]) (fun y => match y with | .inl k => k ≤ fndI s x | .inr k => fndI s x < k ∧ k ≤ s.length) (fun y => match y with | .inl k => s.length - k | .inr k => s.length - k) (Sum.inl 0) (Nat.zero_le _) ?_ ?_
  ·exact qwb0
  ·rintro y hinv
   rcases y with k | k
   ·have hk0 : k ≤ fndI s x := hinv
    have hpl : (mixT (s.take (fndI s x)) k).length = fndI s x := by rw [mixT_len (by rw [List.length_take]; omega), List.length_take]; omega
    rcases Nat.lt_or_eq_of_le hk0 with hk | hk
    ·conv => whnf
     refine bT (decide_eq_true (by rw [List.length_map]; omega)) ?_
     conv => whnf
     refine RegG.par 10 (by kernel_rfl) ?_
     conv => whnf
     refine ⟨_, rfl, ?_⟩
     conv => whnf
     refine ⟨by omega, ?_⟩
     conv => whnf
     refine .pre ?_
     conv => whnf
     obtain ⟨t1, ht1⟩ : ∃ x, s[k]? = some x := ⟨_, List.getElem?_eq_getElem (by omega)⟩; have hin1 := hs _ (List.mem_of_getElem? ht1); refine IdxG.mk (j := k) (c := tbC false false false t1) (mixT_at (take_at ht1 hk)) rfl ?_
     conv => whnf
     refine CallG.mk (own_T _ _ _ _ hin1) rfl ?_
     conv => whnf
     refine ⟨_, rfl, ?_⟩
     conv => whnf
     refine ⟨by omega, ?_⟩
     conv => whnf
     refine .frz ?_
     conv => whnf
     refine .pre ?_
     conv => whnf
     refine IdxG.mk (j := k) (c := tbC false false false t1) (mixT_at (take_at ht1 hk)) rfl ?_
     conv => whnf
     refine ⟨rfl, ?_⟩
     conv => whnf
     refine ⟨(Sum.inl (k + 1)), (show k + 1 ≤ fndI s x by omega), (show s.length - (k + 1) < s.length - k by omega), ?_⟩
     exact qwb0
    ·conv => whnf
     refine bT (by simp_all; done) ?_
     conv => whnf
     refine RegG.par 10 (by kernel_rfl) ?_
     conv => whnf
     refine ⟨_, rfl, ?_⟩
     conv => whnf
     refine ⟨by omega, ?_⟩
     conv => whnf
     refine .foc (by omega) ?_
     conv => whnf
     refine CallG.mk (own_T _ _ _ _ hin) rfl ?_
     conv => whnf
     refine ⟨_, rfl, ?_⟩
     conv => whnf
     refine ⟨by omega, ?_⟩
     conv => whnf
     refine .keep ?_
     conv => whnf
     refine .foc (by omega) ?_
     exact qwb4
   ·have hk0 : fndI s x < k ∧ k ≤ s.length := hinv
    have hpl : ((s.take (fndI s x)).map (tbC true true true)).length = fndI s x := by rw [List.length_map, List.length_take]; omega
    have hql : (mixT (s.drop (fndI s x + 1)) (k - fndI s x - 1)).length = s.length - fndI s x - 1 := by rw [mixT_len (by rw [List.length_drop]; omega), List.length_drop]; omega
    conv => whnf
    refine bS (fun hc1 => ?_) (fun hc1 => ?_)
    ·try simp only [bls] at hc1
     conv => whnf
     refine RegG.par 10 (by kernel_rfl) ?_
     conv => whnf
     refine ⟨_, rfl, ?_⟩
     conv => whnf
     refine ⟨by simp only [bls]; omega, ?_⟩
     conv => whnf
     refine .post (k - fndI s x - 1) (by omega) ?_
     conv => whnf
     obtain ⟨t1, ht1⟩ : ∃ x, s[k]? = some x := ⟨_, List.getElem?_eq_getElem (by omega)⟩; have hin1 := hs _ (List.mem_of_getElem? ht1); refine IdxG.mk (j := k - fndI s x - 1) (c := tbC false false false t1) (mixT_at (drop_at ht1 hk0.1)) rfl ?_
     conv => whnf
     refine CallG.mk (own_T _ _ _ _ hin1) rfl ?_
     conv => whnf
     refine ⟨_, rfl, ?_⟩
     conv => whnf
     refine ⟨by simp only [bls]; omega, ?_⟩
     conv => whnf
     refine .frz ?_
     conv => whnf
     refine .post (k - fndI s x - 1) (by omega) ?_
     conv => whnf
     refine IdxG.mk (j := k - fndI s x - 1) (c := tbC false false false t1) (mixT_at (drop_at ht1 hk0.1)) rfl ?_
     conv => whnf
     refine ⟨rfl, ?_⟩
     exact qwb4
    ·try simp only [bls] at hc1
     conv => whnf
     refine ⟨.inr rfl, ?_⟩
     conv => whnf
     refine ⟨_, (Int.toNat_of_nonneg (by omega)).symm, ?_⟩
     conv => whnf
     refine ⟨by simp only [bls]; omega, ?_⟩
     conv => whnf
     refine InlG.mk (by kernel_rfl) Tryz.func124 rfl (Nat.le_of_ble_eq_true rfl) (XT.of tabX_ok ?_)
     conv => whnf
     refine InlG.mk (by kernel_rfl) Tryz.func128 rfl (Nat.le_of_ble_eq_true rfl) (XT.of tabX_ok ?_)
     conv => whnf
     refine XT.loop tabX_ok (Y := Nat) [4, 5, 8, 9, 10, 11, 12, 13, 14, 15, 16, 17, 18] (fun j => [(8, .p (.v (.int .i64 (j))) (nlv _))]) (fun j => []) (fun j => j ≤ l.length ∧ noP (fun r => !rowB t.c r) l j) (fun j => l.length - j) 0 ⟨Nat.zero_le _, noP_0⟩ ?_ ?_
     ·exact qwb1
     ·rintro j ⟨hj, hP⟩
      conv => whnf
      refine bS (fun hc2 => ?_) (fun hc2 => ?_)
      ·try simp only [bls] at hc2
       conv => whnf
       refine IdxG.map (l := l) j rfl (by first | omega | (simp only [List.length_map] at *; omega)) ?_; intro r1 hr1 hnr1; have hrl1 := hlr _ (List.mem_of_getElem? hr1)
       conv => whnf
       refine ⟨rfl, ?_⟩
       conv => whnf
       refine InlG.mk (by kernel_rfl) Tryz.func125 rfl (Nat.le_of_ble_eq_true rfl) (XT.of tabX_ok ?_)
       conv => whnf
       refine .foc (by omega) ?_
       conv => whnf
       refine .ct ?_
       conv => whnf
       refine CallG.mk (fits_T _ _ _ _ t _ hin.cn hrl1) rfl ?_
       conv => whnf
       refine ⟨.inr rfl, ?_⟩
       conv => whnf
       refine bS (fun hc3 => ?_) (fun hc3 => ?_)
       ·try simp only [bls] at hc3
        conv => whnf
        refine ⟨.inr rfl, ?_⟩
        conv => whnf
        refine ⟨.inr rfl, ?_⟩
        conv => whnf
        refine FinG.mk none ?_ (by rintro _ ⟨⟩)
        simp only [outs, List.length_map, List.length_append, List.length_take, List.length_drop, List.length_cons, List.length_nil, fr_by1, fr_rw, fr_tb, fr_dc, fr_vl, fr_cl, tblZ, List.map_nil]
        rw [hR, fil_r h6 (all_no hr1 hc3)]
        exact ⟨rfl, rfl⟩
       ·try simp only [bls] at hc3
        conv => whnf
        refine ⟨(j + 1), ⟨by omega, noP_s hP hr1 (by simp_all)⟩, by omega, ?_⟩
        exact qwb1
      ·try simp only [bls] at hc2
       have hall : l.all (rowB t.c) = true := all_of hP (by simpa using hc2)
       conv => whnf
       refine ⟨.inr rfl, ?_⟩
       conv => whnf
       refine ⟨.inr rfl, ?_⟩
       conv => whnf
       refine RegG.perm [1, 2, 3, 4, 5, 6, 7, 0, 8, 9, 10] (by kernel_rfl) ?_
       refine RegG.wr2 6 1 49 5 (by kernel_rfl) rfl rfl ?_
       conv => whnf
       refine .foc (by omega) ?_
       conv => whnf
       refine CallG.mk (copied_T _ _ _ (by first | assumption | omega) (by assumption)) rfl ?_
       conv => whnf
       refine ⟨_, RowOp.app tabX_ok rfl rfl rfl rfl rfl rfl rfl (els' := (t.r ++ l).map (rwC true)) (by rw [List.map_append]) (nl_rw _ _) (by (conv => whnf); exact ⟨fun c hc => ⟨rw_len _ _ c hc, rw_one _ _ c hc⟩, by have := hF.r; simp only [List.length_map]; omega⟩), ?_⟩
       conv => whnf
       refine .keep ?_
       conv => whnf
       refine .foc (by omega) ?_
       conv => whnf
       refine .foc (by omega) ?_
       conv => whnf
       refine .ct ?_
       conv => whnf
       refine CallG.mk (key_T _ _ _ (tbR t (t.r ++ l)) hin.cn) rfl ?_
       conv => whnf
       refine .foc (by omega) ?_
       conv => whnf
       refine .wr (WCall.sort sortC (β := List Val) (t := fun x => .sl true (x.map vlC)) (l := t.r ++ l) (cf := fun a b => cmpV (vAt a (keyI t.c)) (vAt b (keyI t.c))) (enters_of Tryz.func126 (by kernel_rfl) rfl) (swo_key _) rfl rfl (by have := hF.r; simp only [List.length_append, List.length_nil]; omega) (fun _ _ => rfl) (fun x => (nl_vl _).sl) (cmp_by hF.k0 hF.k1 (row_all hall hF.w)) ?_)
       intro p hpm hps
       have hwp : ∀ r ∈ p, rowB t.c r = true := fun r hr => row_all hall hF.w r (hpm.mem_iff.1 hr)
       have hplen : p.length = (t.r ++ l).length := hpm.length_eq
       simp only [List.length_append, List.length_nil] at hplen
       conv => whnf
       refine .foc (by omega) ?_
       conv => whnf
       refine XT.loop tabX_ok (Y := Nat) [9, 16, 71, 72, 73, 74, 75, 76, 77, 78, 79, 80, 81, 82, 83, 84, 85, 86, 87, 88, 89, 90, 91, 92, 93, 94, 95, 96, 97] (fun q => [(71, .p (.v (.int .i64 (q))) (nlv _))]) (fun q => []) (fun q => q ≤ p.length ∧ noEq (keyI t.c) p q) (fun q => p.length - q) 0 ⟨Nat.zero_le _, noEq_0 _⟩ ?_ ?_
       ·exact qwb1
       ·rintro q ⟨hq, hN⟩
        conv => whnf
        refine bS (fun hc4 => ?_) (fun hc4 => ?_)
        ·try simp only [bls] at hc4
         conv => whnf
         refine RegG.par 22 (by kernel_rfl) ?_
         conv => whnf
         refine bS (fun hc5 => ?_) (fun hc5 => ?_)
         ·try simp only [bls] at hc5
          conv => whnf
          refine bT (by simp_all; done) ?_
          conv => whnf
          refine bT (by simp_all; done) ?_
          conv => whnf
          refine bT (by simp_all; done) ?_
          conv => whnf
          refine bT (by simp_all; done) ?_
          conv => whnf
          refine .foc (by omega) ?_
          conv => whnf
          refine bT (by simp_all; done) ?_
          conv => whnf
          refine bT (by simp_all; done) ?_
          conv => whnf
          refine bT (by simp_all; done) ?_
          conv => whnf
          rw [show IntKind.i64.wrap ((↑q : Int) - 1) = ((↑q : Int) - 1) from wz.1 _ (by omega) (by omega)]
          conv => whnf
          refine ⟨_, (Int.toNat_of_nonneg (by omega)).symm, ?_⟩
          conv => whnf
          refine ⟨by simp only [bls]; omega, ?_⟩
          conv => whnf
          refine bT (by simp_all; done) ?_
          conv => whnf
          refine IdxG.map (l := p) (q - 1) (by omega) (by first | omega | (simp only [List.length_map] at *; omega)) ?_; intro a0 ha0 hna0; have hla0 := rowB_len (hwp _ (List.mem_of_getElem? ha0)); have hkc0 := hF.k0; have hkc1 := hF.k1
          conv => whnf
          refine bT (by simp_all; done) ?_
          conv => whnf
          refine bT (by simp_all; done) ?_
          conv => whnf
          refine bT (by simp_all; done) ?_
          conv => whnf
          refine bT (by simp_all; done) ?_
          conv => whnf
          refine .foc (by omega) ?_
          conv => whnf
          refine bT (by simp_all; done) ?_
          conv => whnf
          refine bT (by simp_all; done) ?_
          conv => whnf
          refine ⟨_, rfl, ?_⟩
          conv => whnf
          refine ⟨by simp only [bls]; omega, ?_⟩
          conv => whnf
          refine bT (by simp_all; done) ?_
          conv => whnf
          refine IdxG.map (l := p) q (by omega) (by first | omega | (simp only [List.length_map] at *; omega)) ?_; intro a1 ha1 hna1; have hla1 := rowB_len (hwp _ (List.mem_of_getElem? ha1)); have hkc0 := hF.k0; have hkc1 := hF.k1
          conv => whnf
          refine bT (by simp_all; done) ?_
          conv => whnf
          refine CallG.mk (by_T _ _ a0 a1 (max (keyI t.c) 0) (vAt a0 (keyI t.c)) (vAt a1 (keyI t.c)) (by omega) (by rw [show (max (keyI t.c) 0).toNat = (keyI t.c).toNat by omega]; exact vAt_get hkc0 (by omega)) (by rw [show (max (keyI t.c) 0).toNat = (keyI t.c).toNat by omega]; exact vAt_get hkc0 (by omega))) rfl ?_
          conv => whnf
          refine bT (by simp_all; done) ?_
          conv => whnf
          refine bT (by simp_all; done) ?_
          conv => whnf
          refine bS (fun hc6 => ?_) (fun hc6 => ?_)
          ·try simp only [bls] at hc6
           conv => whnf
           refine FinG.mk none ?_ (by rintro _ ⟨⟩)
           simp only [outs, List.length_map, List.length_append, List.length_take, List.length_drop, List.length_cons, List.length_nil, fr_by1, fr_rw, fr_tb, fr_dc, fr_vl, fr_cl, tblZ, List.map_nil]
           have he := sort_none (rows_rise h6) hpm (j := q - 1) ha0 (by rw [show q - 1 + 1 = q by omega]; exact ha1) (by assumption)
           rw [hR, fil_n h6 hall (by simpa using he)]
           exact ⟨rfl, rfl⟩
          ·try simp only [bls] at hc6
           exact qwb3
         ·try simp only [bls] at hc5
          conv => whnf
          refine bF (by simp_all; done) ?_
          conv => whnf
          refine bF (by simp_all; done) ?_
          conv => whnf
          refine bF (by simp_all; done) ?_
          conv => whnf
          refine bF (by simp_all; done) ?_
          conv => whnf
          refine bF (by simp_all; done) ?_
          conv => whnf
          refine bF (by simp_all; done) ?_
          conv => whnf
          refine bF (by simp_all; done) ?_
          conv => whnf
          refine bF (by simp_all; done) ?_
          conv => whnf
          refine bF (by simp_all; done) ?_
          conv => whnf
          refine bF (by simp_all; done) ?_
          conv => whnf
          refine bF (by simp_all; done) ?_
          conv => whnf
          refine bF (by simp_all; done) ?_
          conv => whnf
          refine bF (by simp_all; done) ?_
          conv => whnf
          refine bF (by simp_all; done) ?_
          conv => whnf
          refine bF (by simp_all; done) ?_
          conv => whnf
          refine bF (by simp_all; done) ?_
          conv => whnf
          refine bF (by simp_all; done) ?_
          conv => whnf
          refine bF (by simp_all; done) ?_
          exact qwb3
        ·try simp only [bls] at hc4
         conv => whnf
         refine XT.freeze 5 ?_
         conv => whnf
         refine XT.unfocE 4 ((s.set (fndI s x) (tbR t p)).map (tbC true true true)) (nl_tb _ _ _ _) rfl ?_
         conv => whnf
         refine ⟨by rw [set_eq _ _ _ h4, mixT_e2 (by rw [List.length_drop]; omega) (by rw [List.length_drop]; omega)]; rfl, ?_⟩
         conv => whnf
         refine XT.pass tabX_ok ?_
         conv => whnf
         refine XT.pass tabX_ok ?_
         conv => whnf
         refine IdxG.mk (j := fndI s x) (c := tbC true true true (tbR t p)) (by rw [List.getElem?_map, List.getElem?_set_self hIl]; rfl) (by omega) ?_
         conv => whnf
         refine bS (fun hc7 => ?_) (fun hc7 => ?_)
         ·try simp only [bls] at hc7
          conv => whnf
          refine FinG.mk none ?_ (by rintro _ ⟨⟩)
          simp only [outs, List.length_map, List.length_append, List.length_take, List.length_drop, List.length_cons, List.length_nil, fr_by1, fr_rw, fr_tb, fr_dc, fr_vl, fr_cl, tblZ, List.map_nil]
          have hqe : q = p.length := by omega
          have he := sort_some (rows_rise h6) hpm hps (hqe ▸ hN)
          have h40 : (40 : Int) < p.length := by simpa [tbR] using hc7
          rw [hR, fil_f h6 hall (by simpa using he) h40]
          exact ⟨rfl, rfl⟩
         ·try simp only [bls] at hc7
          conv => whnf
          refine FinG.mk (some 4) ?_ (by rintro _ ⟨⟩; trivial)
          simp only [outs, List.length_map, List.length_append, List.length_take, List.length_drop, List.length_cons, List.length_nil, fr_by1, fr_rw, fr_tb, fr_dc, fr_vl, fr_cl, tblZ, List.map_nil]
          have hqe : q = p.length := by omega
          have he := sort_some (rows_rise h6) hpm hps (hqe ▸ hN)
          have h40 : (p.length : Int) ≤ 40 := by simpa [tbR] using hc7
          rw [hR, fil_t h6 hall (by simpa using he) h40]
          and_intros <;> first | rfl | exact fr_tb _
end Go.Proofs.YtpgfhkbnngjegaaGreatDoor

namespace Go.Proofs.YtpgfhkbnngjegaaGreatDoor
open Go.RowKit
set_option linter.unusedVariables false
set_option linter.unusedSimpArgs false
section
variable {P : Program} {B : Nat} {w0 : World} {h : List LB} {s : List TV} {o : Oper}
theorem S_buildSliceZ {t : TypeId} {len : Nat} {parts : Array (Nat × Operand)} {xs : List Operand} {els : List (List TV)} {z : Value} {ti te : TI} (ho : o.op = .buildSlice t len parts) (ht : tiOf P t = some ti) (hk : ti.k = 3) (he : tiOf P ti.el = some te) (hz : (P.info? ti.el).map (·.zero) = some (some z))
    (hp : parts.toList = idxs 0 xs) (hl : xs.length = len) (hc : cellsTs s xs = some els) (hs : els.all (fun c => decide (c.length = te.n)) = true) (hb : len * te.n ≤ 16777216) (hn : len ≤ 9223372036854775807) : TStep P B w0 h s o (.sl true els) none := .grow fun ρ h' w a H R hh => by
  have hs' : ∀ c ∈ els, c.length = te.n := fun c hc => by simpa using List.all_eq_true.1 hs c hc
  have hels : els.length = len := by
    rw [← hl]
    clear hp hl hs hs' ho hh
    induction xs generalizing els with
    | nil => simp only [cellsTs, Option.some.injEq] at hc; subst hc; rfl
    | cons x xs ih =>
      simp only [cellsTs] at hc
      split at hc
      · rename_i l ls h1 h2
        injection hc with hc
        subst hc
        simp [ih h2]
      · cases hc
  have hopnd : ∀ x ∈ xs, x ∈ o.op.operands.toList := by
    have key : ∀ (xs : List Operand) (k : Nat), (idxs k xs).map (·.2) = xs := by
      intro xs
      induction xs with
      | nil => intro k; rfl
      | cons x xs ih => intro k; simp [idxs, ih]
    intro x hx
    simp only [ho, Op.operands, hp, key]
    exact hx
  obtain ⟨zs, hzs⟩ : ∃ zs : Array Value, (if len * te.n = 0 then (#[] : Array Value) else z.cells) = zs := ⟨_, rfl⟩
  obtain ⟨vs', css, h3, h4, h5, h6⟩ := fill_row (C := cxOf B ρ h' w) (a := a) (s := s) (sz := te.n) (fun x l h1 h2 => R.cellsT h2 h1) xs els 0 ((Array.range (len * te.n)).map (zs[· % zs.size]!)) hc (fun x hx => hh x (hopnd x hx)) hs' (by simp [hl])
  have e1 : (parts.map fun (i, x) => (i, a.eval x)).toList = (idxs 0 xs).map fun (i, x) => (i, a.eval x) := by rw [← hp]; simp
  simp only [Nat.zero_mul, List.take_zero, List.nil_append] at h6
  have hvs : vs' = css.flatten.toArray := by apply Array.ext'; simpa using h6
  have hb' : ¬ (len * te.n > 2 ^ 24) := by omega
  refine ⟨.slice (some ⟨w.heap.size, 0, none⟩) len len, w.alloc (.cells vs' ti.el), ?_, (Below.refl _ _).alloc (Nat.le_refl _) _, ?_⟩
  · by_cases h0 : len * te.n = 0
    · rw [if_pos h0] at hzs
      subst hzs
      simp only [execOp, ho, Instr.buildSlice, Sem.run_bind, run_underlying (ti_slice ht hk), Result.andThen_ok, ti_size he, hb', if_false, Sem.run_ite, Sem.run_pure, e1, h0, if_true] at h3 ⊢
      simp only [h3, newRow, Sem.run_bind, Sem.run_pure, run_newObj_alloc, Result.andThen_ok]
      simp
    · rw [if_neg h0] at hzs
      subst hzs
      simp only [execOp, ho, Instr.buildSlice, Sem.run_bind, run_underlying (ti_slice ht hk), Result.andThen_ok, ti_size he, hb', if_false, Sem.run_ite, Sem.run_pure, e1, h0, zero_run hz] at h3 ⊢
      simp only [h3, newRow, Sem.run_bind, Sem.run_pure, run_newObj_alloc, Result.andThen_ok]
  · have hcl := h4.len
    have hfl : css.flatten.length = els.length * te.n := by
      rw [← hcl]
      clear h3 h4 h6 hcl hvs
      induction css with
      | nil => simp
      | cons x css ih => rw [List.flatten_cons, List.length_append, ih (fun y hy => h5 y (by simp [hy])), h5 x (by simp), List.length_cons, Nat.add_mul]; omega
    have hbel : Below w.heap.size w (w.alloc (.cells vs' ti.el)) := (Below.refl _ _).alloc (Nat.le_refl _) _
    have hown : (w.alloc (.cells vs' ti.el)).ownsRow w.heap.size ti.el te.n (.slice (some ⟨w.heap.size, 0, none⟩) els.length len) els.length css.flatten := by
      refine ⟨hfl, .inr ⟨w.heap.size, len, vs', rfl, Nat.le_refl _, heap_alloc_new w _, by omega, by unfold maxLen; omega, by rw [hvs]; simpa [hels] using hfl, ?_⟩⟩
      rw [hvs, List.take_of_length_le (by simp only []; rw [← hfl]; simp)]
    have := row_sl (C := cxOf B ρ h' (w.alloc (.cells vs' ti.el))) (b := true) hown h5 (DnLL.keep (.grow hbel) _ _ h4) (fun ad ha => ?_) (fun _ => R.size)
    · rw [hels] at this; exact this
    · injection ha with ha
      subst ha
      refine ⟨fun i hi e => ?_, fun i hp => Nat.lt_irrefl _ (R.ps_lt hp).2.1⟩
      have := R.inj i _ hi e
      exact Nat.lt_irrefl _ this
end
section
variable {P : Program} {B : Nat} {w0 : World} {T : Tab} {n : Nat} {e : Env} {h : List XLB} {gs : Frames} {K : KK}
/-- What an operation yields; rows that are built are written no more. -/
def XSz (P : Program) (T : Tab) (n : Nat) (h : List XLB) (e : Env) (op : Op) (k : XV → Option XLB → Prop) : Prop := match op with
  | .buildSlice t len parts => tyK T t fun ti => isK ti.k 3 (zK T ti.el fun te z => isK parts.toList.length len (match Nat.ble (len * te.n) 16777216 with
    | true => match Nat.ble len 9223372036854775807 with
      | true => rowsK n e te.n 0 parts.toList fun els hp => k (.p (.sl true els) hp.sl) none
      | false => False
    | false => False))
  | op => XS P T n h e op k
theorem XSz_ok (O : TabOk P T) {o : Oper} {k : XV → Option XLB → Prop} (hh : XSz P T n h e o.op k) : ∃ v new, TStep P B w0 (h.map XLB.den) (toL n e) o v.den (Option.map XLB.den new) ∧ k v new := by
  unfold XSz at hh
  split at hh
  · rename_i t len parts ho
    obtain ⟨ti, ht, hh⟩ := tyK_ok O hh
    obtain ⟨hk3, hh⟩ := isK_ok hh
    obtain ⟨te, z, he, hz, hh⟩ := zK_ok O hh
    obtain ⟨hl, hh⟩ := isK_ok hh
    split at hh
    · rename_i h1
      split at hh
      · rename_i h2
        obtain ⟨xs, els, hp, h3, h4, h5, h6, hh⟩ := rowsK_ok hh
        have := S_buildSliceZ (P := P) (B := B) (w0 := w0) (h := h.map XLB.den) (s := toL n e) ho ht hk3 he hz h3 (h4.trans hl) h5 h6 (Nat.le_of_ble_eq_true h1) (Nat.le_of_ble_eq_true h2)
        exact ⟨.p (.sl true els) hp.sl, none, this, hh⟩
      · exact hh.elim
    · exact hh.elim
  · exact XS_ok O hh
def XPz (P : Program) (T : Tab) (n : Nat) (L : List Oper) : List Oper → Env → List XLB → (Env → List XLB → Prop) → Prop
  | [], e, h, k => k e h
  | o :: r, e, h, k => guardK n L e o.guard (XSz P T n h e o.op fun v new => putK n e o.dst v fun e' => addK h new fun h' => XPz P T n L r e' h' k) (putK n e o.dst (.p (.v undef) (nlv _)) fun e' => XPz P T n L r e' h k)
theorem XPz_ok (O : TabOk P T) {L : List Oper} {K : List TV → List LB → Prop} : ∀ {l : List Oper} {e : Env} {h : List XLB} {k : Env → List XLB → Prop}, XPz P T n L l e h k → (∀ e h, k e h → K (toL n e) (h.map XLB.den)) → TPar P B w0 L l (toL n e) (h.map XLB.den) K
  | [], e, h, k, hh, hk => hk _ _ hh
  | o :: r, e, h, k, hh, hk => by
    have key : ∀ {e : Env} {h : List XLB} {v : XV} {new : Option XLB}, (putK n e o.dst v fun e' => addK h new fun h' => XPz P T n L r e' h' k) → TPar P B w0 L r (putO (toL n e) o.dst v.den) (addO (h.map XLB.den) (new.map XLB.den)) K := fun hh => by
      obtain ⟨e', he, hh⟩ := putK_ok hh
      obtain ⟨h', hh', hh⟩ := addK_ok hh
      have := XPz_ok O hh hk
      rw [he, hh'] at this
      exact this
    rcases guardK_ok hh with ⟨hg, hh⟩ | ⟨j, b, og, d, hg, hog, hd, hlt, hh⟩
    · obtain ⟨v, new, hs, hh⟩ := XSz_ok (B := B) (w0 := w0) O hh
      exact .run hg hs (key hh)
    · have hlt' : d < (toL n e).length := by rw [toL_len]; exact hlt
      rcases hh with ⟨hb, hh⟩ | ⟨x, hx, hn, hh⟩
      · obtain ⟨v, new, hs, hh⟩ := XSz_ok (B := B) (w0 := w0) O hh
        exact .run_g hg hog hd hlt' hb hs (key hh)
      · obtain ⟨e', he, hh⟩ := putK_ok hh
        have := XPz_ok O hh hk
        rw [he] at this
        exact .skip_g hg hog hd hlt' hx hn this
/-- A drawn region; the rows that it builds ahead of its forced part are written no more. -/
theorem RegG.parz {l : List Oper} (m : Nat) (hB : regB l m = true) (hx : XPz P T n l (l.take m) e h fun e h => XL P B w0 T n l (l.drop m) e h gs K) : RegG P B w0 T n l e h gs K := .ta fun O gh Q hq => by
  refine TA.par (σ := xst n e h gs) m O.mo hB ?_
  exact XPz_ok O hx fun e h h1 => XL_ok O l.toArray gh Q (by simpa using h1) hq
end
end Go.Proofs.YtpgfhkbnngjegaaGreatDoor
