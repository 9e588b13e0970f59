/- Which tables may be, with their rows. No condition. -/
import Derived.Test.YtpgfhkbnngjegaaGreatDoorTC
namespace Go.Proofs.YtpgfhkbnngjegaaGreatDoor
open Go.RowKit
set_option linter.unusedVariables false
set_option linter.unusedSimpArgs false
theorem qw40 {p : Prop} (h : p := by
 refine ⟨?_, ?_, ?_⟩
 ·refine leEnv_app (by kernel_rfl) (by kernel_rfl) ?_
  repeat ((conv => whnf); first | exact True.intro | refine ⟨.rfl, ?_⟩ | refine ⟨.any, ?_⟩ | refine ⟨.nil, ?_⟩ | refine ⟨.int (by first | rfl | omega | (simp only [wrs]; omega)), ?_⟩ | refine ⟨.tv (by first | ((try simp only [List.length_map]); exact congrArg (fun b => TV.v (Value.bool b)) (ok0a (by assumption) (by assumption))) | ((try simp only [List.length_map]); exact congrArg (fun b => TV.v (Value.bool b)) (ok0b (by assumption))) | ((try simp only [List.length_map]); exact congrArg (fun b => TV.v (Value.bool b)) (ok0c (by assumption))) | (rw [okN_s hx1]; simp [colB, *]; done) | (rw [okN_s hx1, colB_lt (by assumption), Bool.and_false, Bool.false_and]) | (rw [okN_s hx1, colB_gt (by assumption), Bool.and_false, Bool.false_and]) | (rw [okN_s hx1]; simp [colB, *]; omega) | (rw [kyN_s hx1, if_pos (by assumption), wz.1 _ (by omega) (by omega)]) | (rw [kyN_s hx1, if_neg (by simp only [*]; decide), Int.add_zero]) | (rw [kyN_s hx1]; simp [*]; done)), ?_⟩)
 ·repeat (first | exact LeVs.nil | ((conv => whnf); first | exact True.intro | exact .none | exact .ext | exact .row rfl | refine .cells ?_ | refine ⟨_, _, rfl, .rfl, ?_⟩ | refine ⟨_, _, rfl, .any, ?_⟩ | refine ⟨_, _, rfl, .nil, ?_⟩ | refine ⟨_, _, rfl, .int (by first | rfl | omega | (simp only [wrs]; omega)), ?_⟩ | refine ⟨_, _, rfl, .tv (by first | ((try simp only [List.length_map]); exact congrArg (fun b => TV.v (Value.bool b)) (ok0a (by assumption) (by assumption))) | ((try simp only [List.length_map]); exact congrArg (fun b => TV.v (Value.bool b)) (ok0b (by assumption))) | ((try simp only [List.length_map]); exact congrArg (fun b => TV.v (Value.bool b)) (ok0c (by assumption))) | (rw [okN_s hx1]; simp [colB, *]; done) | (rw [okN_s hx1, colB_lt (by assumption), Bool.and_false, Bool.false_and]) | (rw [okN_s hx1, colB_gt (by assumption), Bool.and_false, Bool.false_and]) | (rw [okN_s hx1]; simp [colB, *]; omega) | (rw [kyN_s hx1, if_pos (by assumption), wz.1 _ (by omega) (by omega)]) | (rw [kyN_s hx1, if_neg (by simp only [*]; decide), Int.add_zero]) | (rw [kyN_s hx1]; simp [*]; done)), ?_⟩ | refine ⟨?_, ?_⟩))
  done
 ·exact LeFr.nil) : p := h
theorem qw41 {p : Prop} (h : p := by
 conv => whnf
 refine ⟨(k + 1, _), ⟨by omega, hM.step hx1⟩, (by show t.c.length - (k + 1) < t.c.length - k; omega), ?_⟩
 exact qw40) : p := h
theorem qw42 {p : Prop} (h : p := by
 conv => whnf
 refine FinG.mk none ?_ (by rintro _ ⟨⟩)
 simp only [outs, List.length_map, List.length_append, List.length_take, List.length_drop, List.length_cons, List.length_nil, fr_by1]
 rw [hd_end hk (by omega)]
 simp_all) : p := h
theorem qw43 {p : Prop} (h : p := by
 conv => whnf
 refine bT (by simp_all; done) ?_
 conv => whnf
 refine bT (by simp_all; done) ?_
 conv => whnf
 refine bT (by simp_all; done) ?_
 conv => whnf
 refine bT (by simp_all; done) ?_
 conv => whnf
 refine bT (by simp_all; done) ?_
 conv => whnf
 refine UpdG.mk rfl dn_str rfl (Maps.string_keyed Tryz.underlying9) Tryz.underlying133 (by simp [maxLen]; omega) (str_key Tryz.underlying9 (hin _ (List.mem_of_getElem? hx1)).n) (plainElem_bool Tryz.underlying4 true) ?_
 conv => whnf
 refine bT (by simp_all; done) ?_
 exact qw41) : p := h
theorem qw44 {p : Prop} (h : p := by
 conv => whnf
 refine bF (by simp_all; done) ?_
 conv => whnf
 refine bT (by simp_all; done) ?_
 conv => whnf
 refine bF (by simp_all; done) ?_
 conv => whnf
 refine bT (by simp_all; done) ?_
 conv => whnf
 refine bT (by simp_all; done) ?_
 conv => whnf
 refine UpdG.mk rfl dn_str rfl (Maps.string_keyed Tryz.underlying9) Tryz.underlying133 (by simp [maxLen]; omega) (str_key Tryz.underlying9 (hin _ (List.mem_of_getElem? hx1)).n) (plainElem_bool Tryz.underlying4 true) ?_
 conv => whnf
 refine bF (by simp_all; done) ?_
 exact qw41) : p := h
theorem qw45 {p : Prop} (h : p := by
 conv => whnf
 refine bT (by simp_all; done) ?_
 conv => whnf
 refine bT (by simp_all; done) ?_
 exact qw42) : p := h
theorem qw46 {p : Prop} (h : p := by
 conv => whnf
 refine bF (by simp_all; done) ?_
 conv => whnf
 refine bF (by simp_all; done) ?_
 exact qw42) : p := h
set_option maxRecDepth 20000
theorem zero4 (w : World) : (zeroValue 4).run Tryz.prog w = .ok (.bool false) w := by go_simp
theorem dn_str {s : ByteArray} (C : Cx) (v : Value) (h : Dn C (.v (.string s)) v) : v = .string s := by simpa [Dn] using h
theorem okN_0 (n : ByteArray) (c : List Dfn) : okN n c 0 = (nameB n && decide (1 ≤ c.length) && decide (c.length ≤ 6)) := by simp [okN, nmL]
theorem ok0a {n : ByteArray} {c : List Dfn} (h0 : nameB n = true) (h1 : 1 ≤ (c.length : Int)) : decide ((c.length : Int) ≤ 6) = okN n c 0 := by
  rw [okN_0, h0, decide_eq_true (show 1 ≤ c.length by omega), Bool.true_and, Bool.true_and]
  exact decide_eq_decide.2 (by omega)
theorem ok0b {n : ByteArray} {c : List Dfn} (h1 : (c.length : Int) < 1) : false = okN n c 0 := by
  rw [okN_0, decide_eq_false (show ¬ 1 ≤ c.length by omega), Bool.and_false, Bool.false_and]
theorem ok0c {n : ByteArray} {c : List Dfn} (h0 : nameB n = false) : false = okN n c 0 := by
  rw [okN_0, h0, Bool.false_and, Bool.false_and]
theorem colB_lt {d : Dfn} (h : d.t < 2) : colB d = false := by
  unfold colB
  rw [decide_eq_false (show ¬ 2 ≤ d.t by omega), Bool.false_and, Bool.and_false, Bool.false_and]
theorem colB_gt {d : Dfn} (h : 4 < d.t) : colB d = false := by
  unfold colB
  rw [decide_eq_false (show ¬ d.t ≤ 4 by omega), Bool.and_false, Bool.and_false, Bool.false_and]
theorem hd_end {n : ByteArray} {c : List Dfn} {k : Nat} (h1 : k ≤ c.length) (h2 : (c.length : Int) ≤ k) : headB n c = (okN n c k && decide (kyN c k = 1)) := by
  obtain rfl : k = c.length := by omega
  exact head_eq n c
set_option maxHeartbeats 4000000 in
set_option maxRecDepth 20000 in
theorem headed_T (b b2 b3 : Bool) (t : Tbl) (hs : t.n.size ≤ 140737488355328) (hin : ∀ d ∈ t.c, d.In) (hn : t.c.length ≤ 100000) : XMeets Tryz.prog 57 [tbT b b2 b3 t] (.p (.v (.bool (headB t.n t.c))) (nlv _)) := by
 refine XMeets.of_X tabX_ok (avs := [.ag [.p (.v (.string (t.n))) (nlv _), .p (.sl false (t.c.map dfC)) (nl_dc _).sl, .p (.sl false (t.r.map (rwC false))) (nl_rw _ _).sl]]) [(0, .ag [.p (.v (.string (t.n))) (nlv _), .p (.sl false (t.c.map dfC)) (nl_dc _).sl, .p (.sl false (t.r.map (rwC false))) (nl_rw _ _).sl])] (by kernel_rfl) Tryz.func57 rfl (by simp [PuL, Pu, tbT, stT, tbC, rwC, vlC, dfC, pu_vl, pu_dc, pu_rw, pu_tb]) (by simp only [untagL, untag, tbT, stT, tbC, rwC, vlC, dfC, untag_vl, untag_dc, untag_rw, untag_tb]; rfl) rfl rfl ?_
 intro B w0
 conv => whnf
 refine .ct ?_
 conv => whnf
 refine CallG.mk (name_X _ hs) rfl ?_
 conv => whnf
 refine bS (fun hc1 => ?_) (fun hc1 => ?_)
 ·try simp only [bls] at hc1
  conv => whnf
  refine bT (by simp_all; done) ?_
  conv => whnf
  refine bT (by simp_all; done) ?_
  conv => whnf
  refine bS (fun hc2 => ?_) (fun hc2 => ?_)
  ·try simp only [bls] at hc2
   conv => whnf
   refine bT (by simp_all; done) ?_
   conv => whnf
   refine bT (by simp_all; done) ?_
   conv => whnf
   refine MapTG.mk Tryz.underlying133 ?_
   conv => whnf
   refine XT.loop tabX_ok (Y := Nat × DataW Unit) [4, 5, 6, 8, 23, 27, 28, 29, 30, 31, 32, 33, 34, 35, 36, 37, 38, 39, 40, 41, 42, 43, 44, 45, 46, 47, 48, 49, 50, 51, 52, 53, 54, 55, 56, 57, 58, 59, 60, 61, 62, 63, 64, 65, 66, 67, 68, 69, 70] (fun (k, Dm) => [(27, .p (.v (.int .i64 ((k : Int)))) (nlv _)), (4, .p (.v (.bool (okN t.n t.c k))) (nlv _)), (6, .p (.v (.int .i64 (kyN t.c k))) (nlv _)), (5, .row 1)]) (fun (k, Dm) => [(1, .ext (mapX Tryz.prog 9 4 k Dm))]) (fun (k, Dm) => k ≤ t.c.length ∧ MetD Dm (t.c.take k)) (fun (k, Dm) => t.c.length - k) (0, .map []) ⟨Nat.zero_le _, metD_0⟩ ?_ ?_
   ·exact qw40
   ·rintro ⟨k, Dm⟩ ⟨hk, hM⟩
    have hky := kyN_le t.c k
    conv => whnf
    refine bS (fun hc3 => ?_) (fun hc3 => ?_)
    ·try simp only [bls] at hc3
     conv => whnf
     refine IdxG.map (l := t.c) _ rfl (by first | omega | (simp only [List.length_map] at *; omega)) ?_; intro x1 hx1 hnx1
     conv => whnf
     refine ⟨rfl, ?_⟩
     conv => whnf
     refine bS (fun hc4 => ?_) (fun hc4 => ?_)
     ·try simp only [bls] at hc4
      conv => whnf
      refine bT (by simp_all; done) ?_
      conv => whnf
      refine bT (by simp_all; done) ?_
      conv => whnf
      refine .ct ?_
      conv => whnf
      refine CallG.mk (name_X _ (hin _ (List.mem_of_getElem? hx1)).n) rfl ?_
      conv => whnf
      refine bT (by simp_all; done) ?_
      conv => whnf
      refine bS (fun hc5 => ?_) (fun hc5 => ?_)
      ·try simp only [bls] at hc5
       conv => whnf
       refine bT (by simp_all; done) ?_
       conv => whnf
       refine bT (by simp_all; done) ?_
       conv => whnf
       refine bT (by simp_all; done) ?_
       conv => whnf
       refine LookG.mk rfl dn_str (Maps.string_keyed Tryz.underlying9) Tryz.underlying133 zero4 (plainElem_bool Tryz.underlying4 false) (str_key Tryz.underlying9 (hin _ (List.mem_of_getElem? hx1)).n) (hM.u Tryz.underlying4 _) ?_
       conv => whnf
       refine bT (by simp_all; done) ?_
       conv => whnf
       refine bT (by simp_all; done) ?_
       conv => whnf
       refine bS (fun hc6 => ?_) (fun hc6 => ?_)
       ·try simp only [bls] at hc6
        conv => whnf
        refine bT (by simp_all; done) ?_
        conv => whnf
        refine bT (by simp_all; done) ?_
        conv => whnf
        refine bT (by simp_all; done) ?_
        conv => whnf
        refine bS (fun hc7 => ?_) (fun hc7 => ?_)
        ·try simp only [bls] at hc7
         conv => whnf
         refine bT (by simp_all; done) ?_
         conv => whnf
         refine bT (by simp_all; done) ?_
         conv => whnf
         refine bT (by simp_all; done) ?_
         conv => whnf
         refine bS (fun hc8 => ?_) (fun hc8 => ?_)
         ·try simp only [bls] at hc8
          conv => whnf
          refine bT (by simp_all; done) ?_
          conv => whnf
          refine bT (by simp_all; done) ?_
          conv => whnf
          refine bS (fun hc9 => ?_) (fun hc9 => ?_)
          ·try simp only [bls] at hc9
           exact qw43
          ·try simp only [bls] at hc9
           exact qw44
         ·try simp only [bls] at hc8
          conv => whnf
          refine bF (by simp_all; done) ?_
          conv => whnf
          refine bF (by simp_all; done) ?_
          conv => whnf
          refine bF (by simp_all; done) ?_
          conv => whnf
          refine bF (by simp_all; done) ?_
          conv => whnf
          refine bF (by simp_all; done) ?_
          conv => whnf
          refine UpdG.mk rfl dn_str rfl (Maps.string_keyed Tryz.underlying9) Tryz.underlying133 (by simp [maxLen]; omega) (str_key Tryz.underlying9 (hin _ (List.mem_of_getElem? hx1)).n) (plainElem_bool Tryz.underlying4 true) ?_
          conv => whnf
          refine bS (fun hc10 => ?_) (fun hc10 => ?_)
          ·try simp only [bls] at hc10
           exact qw41
          ·try simp only [bls] at hc10
           exact qw41
        ·try simp only [bls] at hc7
         conv => whnf
         refine bF (by simp_all; done) ?_
         conv => whnf
         refine bF (by simp_all; done) ?_
         conv => whnf
         refine bF (by simp_all; done) ?_
         conv => whnf
         refine UpdG.mk rfl dn_str rfl (Maps.string_keyed Tryz.underlying9) Tryz.underlying133 (by simp [maxLen]; omega) (str_key Tryz.underlying9 (hin _ (List.mem_of_getElem? hx1)).n) (plainElem_bool Tryz.underlying4 true) ?_
         conv => whnf
         refine bS (fun hc11 => ?_) (fun hc11 => ?_)
         ·try simp only [bls] at hc11
          exact qw41
         ·try simp only [bls] at hc11
          exact qw41
       ·try simp only [bls] at hc6
        conv => whnf
        refine bF (by simp_all; done) ?_
        conv => whnf
        refine bF (by simp_all; done) ?_
        conv => whnf
        refine bF (by simp_all; done) ?_
        conv => whnf
        refine UpdG.mk rfl dn_str rfl (Maps.string_keyed Tryz.underlying9) Tryz.underlying133 (by simp [maxLen]; omega) (str_key Tryz.underlying9 (hin _ (List.mem_of_getElem? hx1)).n) (plainElem_bool Tryz.underlying4 true) ?_
        conv => whnf
        refine bS (fun hc12 => ?_) (fun hc12 => ?_)
        ·try simp only [bls] at hc12
         exact qw41
        ·try simp only [bls] at hc12
         exact qw41
      ·try simp only [bls] at hc5
       conv => whnf
       refine bF (by simp_all; done) ?_
       conv => whnf
       refine bF (by simp_all; done) ?_
       conv => whnf
       refine bF (by simp_all; done) ?_
       conv => whnf
       refine bF (by simp_all; done) ?_
       conv => whnf
       refine bF (by simp_all; done) ?_
       conv => whnf
       refine UpdG.mk rfl dn_str rfl (Maps.string_keyed Tryz.underlying9) Tryz.underlying133 (by simp [maxLen]; omega) (str_key Tryz.underlying9 (hin _ (List.mem_of_getElem? hx1)).n) (plainElem_bool Tryz.underlying4 true) ?_
       conv => whnf
       refine bS (fun hc13 => ?_) (fun hc13 => ?_)
       ·try simp only [bls] at hc13
        exact qw41
       ·try simp only [bls] at hc13
        exact qw41
     ·try simp only [bls] at hc4
      conv => whnf
      refine bF (by simp_all; done) ?_
      conv => whnf
      refine bF (by simp_all; done) ?_
      conv => whnf
      refine bF (by simp_all; done) ?_
      conv => whnf
      refine UpdG.mk rfl dn_str rfl (Maps.string_keyed Tryz.underlying9) Tryz.underlying133 (by simp [maxLen]; omega) (str_key Tryz.underlying9 (hin _ (List.mem_of_getElem? hx1)).n) (plainElem_bool Tryz.underlying4 true) ?_
      conv => whnf
      refine bS (fun hc14 => ?_) (fun hc14 => ?_)
      ·try simp only [bls] at hc14
       exact qw41
      ·try simp only [bls] at hc14
       exact qw41
    ·try simp only [bls] at hc3
     conv => whnf
     refine bS (fun hc15 => ?_) (fun hc15 => ?_)
     ·try simp only [bls] at hc15
      exact qw45
     ·try simp only [bls] at hc15
      exact qw46
  ·try simp only [bls] at hc2
   conv => whnf
   refine bF (by simp_all; done) ?_
   conv => whnf
   refine bF (by simp_all; done) ?_
   conv => whnf
   refine MapTG.mk Tryz.underlying133 ?_
   conv => whnf
   refine XT.loop tabX_ok (Y := Nat × DataW Unit) [4, 5, 6, 8, 23, 27, 28, 29, 30, 31, 32, 33, 34, 35, 36, 37, 38, 39, 40, 41, 42, 43, 44, 45, 46, 47, 48, 49, 50, 51, 52, 53, 54, 55, 56, 57, 58, 59, 60, 61, 62, 63, 64, 65, 66, 67, 68, 69, 70] (fun (k, Dm) => [(27, .p (.v (.int .i64 ((k : Int)))) (nlv _)), (4, .p (.v (.bool (okN t.n t.c k))) (nlv _)), (6, .p (.v (.int .i64 (kyN t.c k))) (nlv _)), (5, .row 1)]) (fun (k, Dm) => [(1, .ext (mapX Tryz.prog 9 4 k Dm))]) (fun (k, Dm) => k ≤ t.c.length ∧ MetD Dm (t.c.take k)) (fun (k, Dm) => t.c.length - k) (0, .map []) ⟨Nat.zero_le _, metD_0⟩ ?_ ?_
   ·exact qw40
   ·rintro ⟨k, Dm⟩ ⟨hk, hM⟩
    have hky := kyN_le t.c k
    conv => whnf
    refine bF (decide_eq_false (by rw [List.length_map]; omega)) ?_
    conv => whnf
    refine bS (fun hc16 => ?_) (fun hc16 => ?_)
    ·try simp only [bls] at hc16
     exact qw45
    ·try simp only [bls] at hc16
     exact qw46
 ·try simp only [bls] at hc1
  conv => whnf
  refine bF (by simp_all; done) ?_
  conv => whnf
  refine bF (by simp_all; done) ?_
  conv => whnf
  refine MapTG.mk Tryz.underlying133 ?_
  conv => whnf
  refine XT.loop tabX_ok (Y := Nat × DataW Unit) [4, 5, 6, 8, 23, 27, 28, 29, 30, 31, 32, 33, 34, 35, 36, 37, 38, 39, 40, 41, 42, 43, 44, 45, 46, 47, 48, 49, 50, 51, 52, 53, 54, 55, 56, 57, 58, 59, 60, 61, 62, 63, 64, 65, 66, 67, 68, 69, 70] (fun (k, Dm) => [(27, .p (.v (.int .i64 ((k : Int)))) (nlv _)), (4, .p (.v (.bool (okN t.n t.c k))) (nlv _)), (6, .p (.v (.int .i64 (kyN t.c k))) (nlv _)), (5, .row 1)]) (fun (k, Dm) => [(1, .ext (mapX Tryz.prog 9 4 k Dm))]) (fun (k, Dm) => k ≤ t.c.length ∧ MetD Dm (t.c.take k)) (fun (k, Dm) => t.c.length - k) (0, .map []) ⟨Nat.zero_le _, metD_0⟩ ?_ ?_
  ·exact qw40
  ·rintro ⟨k, Dm⟩ ⟨hk, hM⟩
   have hky := kyN_le t.c k
   conv => whnf
   refine bS (fun hc17 => ?_) (fun hc17 => ?_)
   ·try simp only [bls] at hc17
    conv => whnf
    refine IdxG.map (l := t.c) _ rfl (by first | omega | (simp only [List.length_map] at *; omega)) ?_; intro x1 hx1 hnx1
    conv => whnf
    refine ⟨rfl, ?_⟩
    conv => whnf
    refine bS (fun hc18 => ?_) (fun hc18 => ?_)
    ·try simp only [bls] at hc18
     conv => whnf
     refine bT (by simp_all; done) ?_
     conv => whnf
     refine bT (by simp_all; done) ?_
     conv => whnf
     refine .ct ?_
     conv => whnf
     refine CallG.mk (name_X _ (hin _ (List.mem_of_getElem? hx1)).n) rfl ?_
     conv => whnf
     refine bT (by simp_all; done) ?_
     conv => whnf
     refine bS (fun hc19 => ?_) (fun hc19 => ?_)
     ·try simp only [bls] at hc19
      conv => whnf
      refine bT (by simp_all; done) ?_
      conv => whnf
      refine bT (by simp_all; done) ?_
      conv => whnf
      refine bT (by simp_all; done) ?_
      conv => whnf
      refine LookG.mk rfl dn_str (Maps.string_keyed Tryz.underlying9) Tryz.underlying133 zero4 (plainElem_bool Tryz.underlying4 false) (str_key Tryz.underlying9 (hin _ (List.mem_of_getElem? hx1)).n) (hM.u Tryz.underlying4 _) ?_
      conv => whnf
      refine bT (by simp_all; done) ?_
      conv => whnf
      refine bT (by simp_all; done) ?_
      conv => whnf
      refine bS (fun hc20 => ?_) (fun hc20 => ?_)
      ·try simp only [bls] at hc20
       conv => whnf
       refine bT (by simp_all; done) ?_
       conv => whnf
       refine bT (by simp_all; done) ?_
       conv => whnf
       refine bT (by simp_all; done) ?_
       conv => whnf
       refine bS (fun hc21 => ?_) (fun hc21 => ?_)
       ·try simp only [bls] at hc21
        conv => whnf
        refine bT (by simp_all; done) ?_
        conv => whnf
        refine bT (by simp_all; done) ?_
        conv => whnf
        refine bT (by simp_all; done) ?_
        conv => whnf
        refine bS (fun hc22 => ?_) (fun hc22 => ?_)
        ·try simp only [bls] at hc22
         conv => whnf
         refine bT (by simp_all; done) ?_
         conv => whnf
         refine bT (by simp_all; done) ?_
         conv => whnf
         refine bS (fun hc23 => ?_) (fun hc23 => ?_)
         ·try simp only [bls] at hc23
          exact qw43
         ·try simp only [bls] at hc23
          exact qw44
        ·try simp only [bls] at hc22
         conv => whnf
         refine bF (by simp_all; done) ?_
         conv => whnf
         refine bF (by simp_all; done) ?_
         conv => whnf
         refine bF (by simp_all; done) ?_
         conv => whnf
         refine bF (by simp_all; done) ?_
         conv => whnf
         refine bF (by simp_all; done) ?_
         conv => whnf
         refine UpdG.mk rfl dn_str rfl (Maps.string_keyed Tryz.underlying9) Tryz.underlying133 (by simp [maxLen]; omega) (str_key Tryz.underlying9 (hin _ (List.mem_of_getElem? hx1)).n) (plainElem_bool Tryz.underlying4 true) ?_
         conv => whnf
         refine bS (fun hc24 => ?_) (fun hc24 => ?_)
         ·try simp only [bls] at hc24
          exact qw41
         ·try simp only [bls] at hc24
          exact qw41
       ·try simp only [bls] at hc21
        conv => whnf
        refine bF (by simp_all; done) ?_
        conv => whnf
        refine bF (by simp_all; done) ?_
        conv => whnf
        refine bF (by simp_all; done) ?_
        conv => whnf
        refine UpdG.mk rfl dn_str rfl (Maps.string_keyed Tryz.underlying9) Tryz.underlying133 (by simp [maxLen]; omega) (str_key Tryz.underlying9 (hin _ (List.mem_of_getElem? hx1)).n) (plainElem_bool Tryz.underlying4 true) ?_
        conv => whnf
        refine bS (fun hc25 => ?_) (fun hc25 => ?_)
        ·try simp only [bls] at hc25
         exact qw41
        ·try simp only [bls] at hc25
         exact qw41
      ·try simp only [bls] at hc20
       conv => whnf
       refine bF (by simp_all; done) ?_
       conv => whnf
       refine bF (by simp_all; done) ?_
       conv => whnf
       refine bF (by simp_all; done) ?_
       conv => whnf
       refine UpdG.mk rfl dn_str rfl (Maps.string_keyed Tryz.underlying9) Tryz.underlying133 (by simp [maxLen]; omega) (str_key Tryz.underlying9 (hin _ (List.mem_of_getElem? hx1)).n) (plainElem_bool Tryz.underlying4 true) ?_
       conv => whnf
       refine bS (fun hc26 => ?_) (fun hc26 => ?_)
       ·try simp only [bls] at hc26
        exact qw41
       ·try simp only [bls] at hc26
        exact qw41
     ·try simp only [bls] at hc19
      conv => whnf
      refine bF (by simp_all; done) ?_
      conv => whnf
      refine bF (by simp_all; done) ?_
      conv => whnf
      refine bF (by simp_all; done) ?_
      conv => whnf
      refine bF (by simp_all; done) ?_
      conv => whnf
      refine bF (by simp_all; done) ?_
      conv => whnf
      refine UpdG.mk rfl dn_str rfl (Maps.string_keyed Tryz.underlying9) Tryz.underlying133 (by simp [maxLen]; omega) (str_key Tryz.underlying9 (hin _ (List.mem_of_getElem? hx1)).n) (plainElem_bool Tryz.underlying4 true) ?_
      conv => whnf
      refine bS (fun hc27 => ?_) (fun hc27 => ?_)
      ·try simp only [bls] at hc27
       exact qw41
      ·try simp only [bls] at hc27
       exact qw41
    ·try simp only [bls] at hc18
     conv => whnf
     refine bF (by simp_all; done) ?_
     conv => whnf
     refine bF (by simp_all; done) ?_
     conv => whnf
     refine bF (by simp_all; done) ?_
     conv => whnf
     refine UpdG.mk rfl dn_str rfl (Maps.string_keyed Tryz.underlying9) Tryz.underlying133 (by simp [maxLen]; omega) (str_key Tryz.underlying9 (hin _ (List.mem_of_getElem? hx1)).n) (plainElem_bool Tryz.underlying4 true) ?_
     conv => whnf
     refine bS (fun hc28 => ?_) (fun hc28 => ?_)
     ·try simp only [bls] at hc28
      exact qw41
     ·try simp only [bls] at hc28
      exact qw41
   ·try simp only [bls] at hc17
    conv => whnf
    refine bS (fun hc29 => ?_) (fun hc29 => ?_)
    ·try simp only [bls] at hc29
     exact qw45
    ·try simp only [bls] at hc29
     exact qw46
end Go.Proofs.YtpgfhkbnngjegaaGreatDoor

namespace Go.Proofs.YtpgfhkbnngjegaaGreatDoor
open Go.RowKit
set_option linter.unusedVariables false
set_option linter.unusedSimpArgs false
theorem qw50 {p : Prop} (h : p := by
 refine ⟨?_, ?_, ?_⟩
 ·refine leEnv_app (by kernel_rfl) (by kernel_rfl) ?_
  repeat ((conv => whnf); first | exact True.intro | refine ⟨.rfl, ?_⟩ | refine ⟨.any, ?_⟩ | refine ⟨.nil, ?_⟩ | refine ⟨.int (by first | rfl | omega | (simp only [wrs]; omega)), ?_⟩)
 ·repeat (first | exact LeVs.nil | ((conv => whnf); first | exact True.intro | exact .none | exact .ext | exact .row rfl | refine .cells ?_ | refine ⟨_, _, rfl, .rfl, ?_⟩ | refine ⟨_, _, rfl, .any, ?_⟩ | refine ⟨_, _, rfl, .nil, ?_⟩ | refine ⟨_, _, rfl, .int (by first | rfl | omega | (simp only [wrs]; omega)), ?_⟩ | refine ⟨?_, ?_⟩))
  done
 ·exact LeFr.nil) : p := h
theorem qw51 {p : Prop} (h : p := by
 conv => whnf
 refine ⟨(k + 1), ⟨by omega, rowsP_s hP hr1 (by assumption) (by first | exact .inl (by omega) | exact .inr ⟨r0, hr0, lt_t hv0 hv1 (by omega)⟩)⟩, by omega, ?_⟩
 exact qw50) : p := h
set_option maxRecDepth 20000
def vAt (r : List Val) (i : Int) : Val := (r[i.toNat]?).getD ⟨0, 0, ⟨#[]⟩⟩
theorem vAt_of {r : List Val} {i : Int} {v : Val} (h : r[i.toNat]? = some v) : vAt r i = v := by simp [vAt, h]
def ltV (key : Int) (r0 r1 : List Val) : Bool := decide (cmpV (vAt r0 key) (vAt r1 key) < 0)
def rowsB (c : List Dfn) (key : Int) : List (List Val) → Bool
  | [] => true
  | r :: l => rowB c r && (match l with | [] => true | r1 :: _ => ltV key r r1) && rowsB c key l
/-- May a table be? -/
def tabB (t : Tbl) : Bool := headB t.n t.c && decide (t.r.length ≤ 40) && rowsB t.c (keyI t.c) t.r
def rowsP (c : List Dfn) (key : Int) (l : List (List Val)) (k : Nat) : Prop := (∀ (j : Nat) (r : List Val), j < k → l[j]? = some r → rowB c r = true) ∧ ∀ (j : Nat) (r0 r1 : List Val), j + 1 < k → l[j]? = some r0 → l[j + 1]? = some r1 → ltV key r0 r1 = true
theorem rowsB_iff {c : List Dfn} {key : Int} : ∀ {l : List (List Val)}, rowsB c key l = true ↔ rowsP c key l l.length
  | [] => by simp [rowsB, rowsP]
  | r :: l => by
    have ih := rowsB_iff (c := c) (key := key) (l := l)
    unfold rowsB
    rw [Bool.and_eq_true, Bool.and_eq_true, ih]
    constructor
    · rintro ⟨⟨h1, h2⟩, h3, h4⟩
      refine ⟨fun j x hj hx => ?_, fun j x y hj hx hy => ?_⟩
      · cases j with
        | zero => simp at hx; rw [← hx]; exact h1
        | succ j => exact h3 j x (by simpa using hj) (by simpa using hx)
      · cases j with
        | zero =>
          simp at hx
          cases l with
          | nil => simp at hy
          | cons r1 l => simp at hy; rw [← hx, ← hy]; exact h2
        | succ j => exact h4 j x y (by simpa using hj) (by simpa using hx) (by simpa using hy)
    · rintro ⟨h1, h2⟩
      refine ⟨⟨h1 0 r (by simp) rfl, ?_⟩, fun j x hj hx => h1 (j + 1) x (by simpa using hj) (by simpa using hx), fun j x y hj hx hy => h2 (j + 1) x y (by simpa using hj) (by simpa using hx) (by simpa using hy)⟩
      cases l with
      | nil => rfl
      | cons r1 l => exact h2 0 r r1 (by simp) rfl rfl
theorem rowsP_0 (c : List Dfn) (key : Int) (l : List (List Val)) : rowsP c key l 0 := ⟨fun j r h => by omega, fun j r0 r1 h => by omega⟩
section
variable {c : List Dfn} {key : Int} {l : List (List Val)} {k : Nat} {r r0 : List Val}
theorem rowsP_s (h : rowsP c key l k) (hr : l[k]? = some r) (h1 : rowB c r = true) (h2 : k = 0 ∨ ∃ r0, l[k - 1]? = some r0 ∧ ltV key r0 r = true) : rowsP c key l (k + 1) := by
  refine ⟨fun j x hj hx => ?_, fun j x y hj hx hy => ?_⟩
  · rcases Nat.lt_or_ge j k with h3 | h3
    · exact h.1 j x h3 hx
    · obtain rfl : j = k := by omega
      rw [hr] at hx; injection hx with hx; rw [← hx]; exact h1
  · rcases Nat.lt_or_ge (j + 1) k with h3 | h3
    · exact h.2 j x y h3 hx hy
    · obtain rfl : k = j + 1 := by omega
      rcases h2 with h2 | ⟨r0, h2, h4⟩
      · omega
      · rw [hr] at hy; injection hy with hy
        rw [Nat.add_sub_cancel, hx] at h2; injection h2 with h2
        rw [← hy, h2]; exact h4
theorem rowsB_t (h : rowsP c key l k) (hk : l.length ≤ k) : rowsB c key l = true := rowsB_iff.2 ⟨fun j x hj => h.1 j x (by omega), fun j x y hj => h.2 j x y (by omega)⟩
theorem rowsB_r (hr : l[k]? = some r) (h1 : rowB c r = false) : rowsB c key l = false := by
  cases hg : rowsB c key l with
  | false => rfl
  | true => have := (rowsB_iff.1 hg).1 k r (List.getElem?_eq_some_iff.1 hr).1 hr; rw [h1] at this; cases this
theorem rowsB_c (hk : 0 < k) (hr : l[k]? = some r) (hr0 : l[k - 1]? = some r0) (h1 : ltV key r0 r = false) : rowsB c key l = false := by
  cases hg : rowsB c key l with
  | false => rfl
  | true =>
    have hlt := (List.getElem?_eq_some_iff.1 hr).1
    have := (rowsB_iff.1 hg).2 (k - 1) r0 r (by omega) hr0 (by rw [show k - 1 + 1 = k by omega]; exact hr)
    rw [h1] at this; cases this
theorem rowB_len (h : rowB c r = true) : r.length = c.length := by
  unfold rowB at h
  rw [Bool.and_eq_true, decide_eq_true_eq] at h
  exact h.1
theorem rowsP_len (h : rowsP c key l k) (hk : k - 1 < k) (hr0 : l[k - 1]? = some r0) : r0.length = c.length := rowB_len (h.1 (k - 1) r0 hk hr0)
theorem lt_t {v v0 : Val} (h0 : r0[key.toNat]? = some v0) (h1 : r[key.toNat]? = some v) (h : cmpV v0 v < 0) : ltV key r0 r = true := by
  unfold ltV
  rw [vAt_of h0, vAt_of h1]
  exact decide_eq_true h
theorem lt_f {v v0 : Val} (h0 : r0[key.toNat]? = some v0) (h1 : r[key.toNat]? = some v) (h : 0 ≤ cmpV v0 v) : ltV key r0 r = false := by
  unfold ltV
  rw [vAt_of h0, vAt_of h1]
  exact decide_eq_false (by omega)
theorem head_key {n : ByteArray} (h : headB n c = true) : 0 ≤ keyI c ∧ keyI c < c.length := by
  unfold headB at h
  simp only [Bool.and_eq_true, decide_eq_true_eq] at h
  exact ⟨h.1.2, (ixP_ge _ _).2⟩
theorem tab_h {t : Tbl} (h : headB t.n t.c = false) : tabB t = false := by simp only [tabB, h, Bool.false_and]
theorem tab_n {t : Tbl} (h : (40 : Int) < t.r.length) : tabB t = false := by
  have h1 : decide (t.r.length ≤ 40) = false := decide_eq_false (by omega)
  simp only [tabB, h1, Bool.false_and, Bool.and_false]
theorem tab_r {t : Tbl} (h : rowsB t.c (keyI t.c) t.r = false) : tabB t = false := by simp only [tabB, h, Bool.and_false]
theorem tab_t {t : Tbl} (h0 : headB t.n t.c = true) (h1 : (t.r.length : Int) ≤ 40) (h : rowsB t.c (keyI t.c) t.r = true) : tabB t = true := by
  simp only [tabB, h0, h, decide_eq_true (show t.r.length ≤ 40 by omega), Bool.and_true]
end
set_option maxRecDepth 20000 in
theorem checkT_T (b b2 b3 : Bool) (t : Tbl) (ht : t.In) : XMeets Tryz.prog 13 [tbT b b2 b3 t] (.p (.v (.int .i64 (if tabB t = true then 0 else 221))) (nlv _)) := by
 refine XMeets.of_X tabX_ok (avs := [.ag [.p (.v (.string (t.n))) (nlv _), .p (.sl false (t.c.map dfC)) (nl_dc _).sl, .p (.sl false (t.r.map (rwC false))) (nl_rw _ _).sl]]) [(0, .ag [.p (.v (.string (t.n))) (nlv _), .p (.sl false (t.c.map dfC)) (nl_dc _).sl, .p (.sl false (t.r.map (rwC false))) (nl_rw _ _).sl])] (by kernel_rfl) Tryz.func13 rfl (by simp [PuL, Pu, tbT, stT, tbC, rwC, vlC, dfC, pu_vl, pu_dc, pu_rw, pu_tb]) (by simp only [untagL, untag, tbT, stT, tbC, rwC, vlC, dfC, untag_vl, untag_dc, untag_rw, untag_tb]; rfl) rfl rfl ?_
 intro B w0
 conv => whnf
 refine .ct ?_
 conv => whnf
 refine CallG.mk (headed_T _ _ _ _ ht.n ht.c ht.cn) rfl ?_
 conv => whnf
 refine bS (fun hc1 => ?_) (fun hc1 => ?_)
 ·try simp only [bls] at hc1
  conv => whnf
  refine bT (by simp_all; done) ?_
  conv => whnf
  refine bT (by simp_all; done) ?_
  conv => whnf
  refine bT (by simp_all; done) ?_
  conv => whnf
  refine bT (by simp_all; done) ?_
  conv => whnf
  refine FinG.mk none ?_ (by rintro _ ⟨⟩)
  simp only [outs, List.length_map, List.length_append, List.length_take, List.length_drop, List.length_cons, List.length_nil, fr_by1]
  rw [tab_h (by assumption)]
  rfl
 ·try simp only [bls] at hc1
  have hky := head_key hc1
  conv => whnf
  refine bF (by simp_all; done) ?_
  conv => whnf
  refine bF (by simp_all; done) ?_
  conv => whnf
  refine bF (by simp_all; done) ?_
  conv => whnf
  refine bF (by simp_all; done) ?_
  conv => whnf
  refine bS (fun hc2 => ?_) (fun hc2 => ?_)
  ·try simp only [bls] at hc2
   conv => whnf
   refine FinG.mk none ?_ (by rintro _ ⟨⟩)
   simp only [outs, List.length_map, List.length_append, List.length_take, List.length_drop, List.length_cons, List.length_nil, fr_by1]
   rw [tab_n (by omega)]
   rfl
  ·try simp only [bls] at hc2
   conv => whnf
   refine .ct ?_
   conv => whnf
   refine CallG.mk (key_T _ _ _ _ ht.cn) rfl ?_
   conv => whnf
   refine XT.loop tabX_ok (Y := Nat) [2, 5, 6, 24, 25, 26, 27, 28, 29, 30, 31, 32, 33, 34, 35, 36, 37, 38, 39, 40, 41, 42, 43, 44, 45, 46, 47, 48, 49, 50, 51, 52, 53, 54] (fun k => [(24, .p (.v (.int .i64 (k))) (nlv _))]) (fun k => []) (fun k => k ≤ t.r.length ∧ rowsP t.c (keyI t.c) t.r k) (fun k => t.r.length - k) 0 ⟨Nat.zero_le _, rowsP_0 _ _ _⟩ ?_ ?_
   ·exact qw50
   ·rintro k ⟨hk, hP⟩
    conv => whnf
    refine bS (fun hc3 => ?_) (fun hc3 => ?_)
    ·try simp only [bls] at hc3
     conv => whnf
     refine IdxG.map (l := t.r) k rfl (by first | omega | (simp only [List.length_map] at *; omega)) ?_; intro r1 hr1 hnr1; have hrl1 := (ht.r _ (List.mem_of_getElem? hr1)).1
     conv => whnf
     refine ⟨rfl, ?_⟩
     conv => whnf
     refine RegG.par 25 (by kernel_rfl) ?_
     conv => whnf
     refine CallG.mk (fits_T _ _ _ _ _ _ ht.cn hrl1) rfl ?_
     conv => whnf
     refine bS (fun hc4 => ?_) (fun hc4 => ?_)
     ·try simp only [bls] at hc4
      conv => whnf
      refine bT (by simp_all; done) ?_
      conv => whnf
      refine bT (by simp_all; done) ?_
      conv => whnf
      refine bT (by simp_all; done) ?_
      conv => whnf
      refine bT (by simp_all; done) ?_
      conv => whnf
      refine FinG.mk none ?_ (by rintro _ ⟨⟩)
      simp only [outs, List.length_map, List.length_append, List.length_take, List.length_drop, List.length_cons, List.length_nil, fr_by1]
      rw [tab_r (rowsB_r hr1 (by assumption))]
      rfl
     ·try simp only [bls] at hc4
      conv => whnf
      refine bF (by simp_all; done) ?_
      conv => whnf
      refine bF (by simp_all; done) ?_
      conv => whnf
      refine bS (fun hc5 => ?_) (fun hc5 => ?_)
      ·try simp only [bls] at hc5
       conv => whnf
       refine bT (by simp_all; done) ?_
       conv => whnf
       refine bT (by simp_all; done) ?_
       conv => whnf
       refine bT (by simp_all; done) ?_
       conv => whnf
       refine bT (by simp_all; done) ?_
       conv => whnf
       rw [show IntKind.i64.wrap ((↑k : Int) - 1) = ((↑k : Int) - 1) from wz.1 _ (by omega) (by omega)]
       refine IdxG.map (l := t.r) (k - 1) (by omega) (by first | omega | (simp only [List.length_map] at *; omega)) ?_; intro r0 hr0 hnr0; have hl1 := rowB_len (by assumption : rowB t.c r1 = true); have hl0 := rowsP_len hP (by omega) hr0
       conv => whnf
       refine ⟨rfl, ?_⟩
       conv => whnf
       refine bT (by simp_all; done) ?_
       conv => whnf
       refine bT (by simp_all; done) ?_
       conv => whnf
       refine bT (by simp_all; done) ?_
       conv => whnf
       refine IdxG.map (l := r0) (keyI t.c).toNat (by omega) (by first | omega | (simp only [List.length_map] at *; omega)) ?_; intro v0 hv0 hnv0
       conv => whnf
       refine ⟨rfl, ?_⟩
       conv => whnf
       refine bT (by simp_all; done) ?_
       conv => whnf
       refine bT (by simp_all; done) ?_
       conv => whnf
       refine bT (by simp_all; done) ?_
       conv => whnf
       refine bT (by simp_all; done) ?_
       conv => whnf
       refine IdxG.map (l := r1) (keyI t.c).toNat (by omega) (by first | omega | (simp only [List.length_map] at *; omega)) ?_; intro v1 hv1 hnv1
       conv => whnf
       refine ⟨rfl, ?_⟩
       conv => whnf
       refine bT (by simp_all; done) ?_
       conv => whnf
       refine bT (by simp_all; done) ?_
       conv => whnf
       refine CallG.mk (compare_X _ _) rfl ?_
       conv => whnf
       refine bT (by simp_all; done) ?_
       conv => whnf
       refine bF (by simp_all; done) ?_
       conv => whnf
       refine bT (by simp_all; done) ?_
       conv => whnf
       refine bF (by simp_all; done) ?_
       conv => whnf
       refine bS (fun hc6 => ?_) (fun hc6 => ?_)
       ·try simp only [bls] at hc6
        conv => whnf
        refine FinG.mk none ?_ (by rintro _ ⟨⟩)
        simp only [outs, List.length_map, List.length_append, List.length_take, List.length_drop, List.length_cons, List.length_nil, fr_by1]
        rw [tab_r (rowsB_c (by omega) hr1 hr0 (lt_f hv0 hv1 (by omega)))]
        rfl
       ·try simp only [bls] at hc6
        exact qw51
      ·try simp only [bls] at hc5
       conv => whnf
       refine bF (by simp_all; done) ?_
       conv => whnf
       refine bF (by simp_all; done) ?_
       conv => whnf
       refine bF (by simp_all; done) ?_
       conv => whnf
       refine bF (by simp_all; done) ?_
       conv => whnf
       refine bF (by simp_all; done) ?_
       conv => whnf
       refine bF (by simp_all; done) ?_
       conv => whnf
       refine bF (by simp_all; done) ?_
       conv => whnf
       refine bF (by simp_all; done) ?_
       conv => whnf
       refine bF (by simp_all; done) ?_
       conv => whnf
       refine bF (by simp_all; done) ?_
       conv => whnf
       refine bF (by simp_all; done) ?_
       conv => whnf
       refine bF (by simp_all; done) ?_
       conv => whnf
       refine bF (by simp_all; done) ?_
       conv => whnf
       refine bF (by simp_all; done) ?_
       conv => whnf
       refine bF (by simp_all; done) ?_
       conv => whnf
       refine bF (by simp_all; done) ?_
       conv => whnf
       refine bF (by simp_all; done) ?_
       exact qw51
    ·try simp only [bls] at hc3
     conv => whnf
     refine FinG.mk none ?_ (by rintro _ ⟨⟩)
     simp only [outs, List.length_map, List.length_append, List.length_take, List.length_drop, List.length_cons, List.length_nil, fr_by1]
     rw [tab_t (by assumption) (by omega) (rowsB_t hP (by omega))]
     rfl
end Go.Proofs.YtpgfhkbnngjegaaGreatDoor
