/- Which columns may be: plain law; names that were met. No condition. -/
import Derived.Test.YtpgfhkbnngjegaaGreatDoorTB
import Derived.Test.YtpgfhkbnngjegaaGreatDoorT28
import Derived.WideKeyEntry
import Derived.Maps.Views
namespace Go.Proofs.YtpgfhkbnngjegaaGreatDoor
open Go.RowKit
set_option linter.unusedVariables false
set_option linter.unusedSimpArgs false
theorem qw30 {p : Prop} (h : p := by
 refine ⟨?_, ?_, ?_⟩
 ·refine leEnv_app (by kernel_rfl) (by kernel_rfl) ?_
  repeat ((conv => whnf); first | exact True.intro | refine ⟨.rfl, ?_⟩ | refine ⟨.any, ?_⟩ | refine ⟨.nil, ?_⟩ | refine ⟨.int (by first | rfl | omega | (simp only [wrs]; omega)), ?_⟩)
 ·repeat (first | exact LeVs.nil | ((conv => whnf); first | exact True.intro | exact .none | exact .ext | exact .row rfl | refine .cells ?_ | refine ⟨_, _, rfl, .rfl, ?_⟩ | refine ⟨_, _, rfl, .any, ?_⟩ | refine ⟨_, _, rfl, .nil, ?_⟩ | refine ⟨_, _, rfl, .int (by first | rfl | omega | (simp only [wrs]; omega)), ?_⟩ | refine ⟨?_, ?_⟩))
  done
 ·exact LeFr.nil) : p := h
theorem qw31 {p : Prop} (h : p := by
 conv => whnf
 refine bT (by simp_all; done) ?_
 conv => whnf
 refine bT (by simp_all; done) ?_
 conv => whnf
 refine bT (by simp_all; done) ?_
 conv => whnf
 refine bT (by simp_all; done) ?_
 conv => whnf
 refine bT (by simp_all; done) ?_
 conv => whnf
 refine bT (by simp_all; done) ?_
 conv => whnf
 refine bT (by simp_all; done) ?_
 conv => whnf
 refine FinG.mk none ?_ (by rintro _ ⟨⟩)
 simp only [outs, List.length_map, List.length_append, List.length_take, List.length_drop, List.length_cons, List.length_nil, fr_by1]
 rw [rowB_f hv1 hx1 (by simp_all [fitB, checkN_0]; done)]) : p := h
theorem qw32 {p : Prop} (h : p := by
 conv => whnf
 refine bF (by simp_all; done) ?_
 conv => whnf
 refine bF (by simp_all; done) ?_
 conv => whnf
 refine bF (by simp_all; done) ?_
 conv => whnf
 refine bF (by simp_all; done) ?_
 conv => whnf
 refine ⟨(k + 1), ⟨by omega, fitP_s hP hv1 hx1 (by simp_all [fitB, checkN_0]; done)⟩, by omega, ?_⟩
 exact qw30) : p := h
theorem qw33 {p : Prop} (h : p := by
 refine ⟨?_, ?_, ?_⟩
 ·refine leEnv_app (by kernel_rfl) (by kernel_rfl) ?_
  repeat ((conv => whnf); first | exact True.intro | refine ⟨.rfl, ?_⟩ | refine ⟨.any, ?_⟩ | refine ⟨.nil, ?_⟩ | refine ⟨.int (by first | rfl | omega | (simp only [wrs]; omega)), ?_⟩)
 ·repeat (first | exact LeVs.nil | ((conv => whnf); first | exact True.intro | exact .none | exact .ext | exact .row rfl | refine .cells ?_ | refine ⟨_, _, rfl, .rfl, ?_⟩ | refine ⟨_, _, rfl, .any, ?_⟩ | refine ⟨_, _, rfl, .nil, ?_⟩ | refine ⟨_, _, rfl, .int (by first | rfl | omega | (simp only [wrs]; omega)), ?_⟩ | refine ⟨?_, ?_⟩))
  done
 ·exact LeFr.same (by kernel_rfl)) : p := h
theorem qw34 {p : Prop} (h : p := by
 conv => whnf
 refine FinG.mk none ?_ (by rintro _ ⟨⟩)
 simp only [outs, List.length_map, List.length_append, List.length_take, List.length_drop, List.length_cons, List.length_nil, fr_by1]
 rw [rowB_f hv1 hx1 (by simp_all [fitB, checkN_0]; done)]) : p := h
theorem qw35 {p : Prop} (h : p := by
 conv => whnf
 refine bT (by simp_all; done) ?_
 conv => whnf
 refine bF (by simp_all; done) ?_
 conv => whnf
 refine bT (by simp_all; done) ?_
 conv => whnf
 refine bF (by simp_all; done) ?_
 exact qw34) : p := h
set_option maxRecDepth 20000
set_option maxRecDepth 20000 in
theorem key_T (b b2 b3 : Bool) (t : Tbl) (hn : t.c.length ≤ 100000) : XMeets Tryz.prog 14 [tbT b b2 b3 t] (.tu [.p (.v (.int .i64 (max (keyI t.c) 0))) (nlv _), .p (.v (.bool (decide (0 ≤ keyI t.c)))) (nlv _)]) := by
 refine XMeets.of_X tabX_ok (avs := [.ag [.p (.v (.string (t.n))) (nlv _), .p (.sl false (t.c.map dfC)) (nl_dc _).sl, .p (.sl false (t.r.map (rwC false))) (nl_rw _ _).sl]]) [(0, .ag [.p (.v (.string (t.n))) (nlv _), .p (.sl false (t.c.map dfC)) (nl_dc _).sl, .p (.sl false (t.r.map (rwC false))) (nl_rw _ _).sl])] (by kernel_rfl) Tryz.func14 rfl (by simp [PuL, Pu, tbT, stT, tbC, rwC, vlC, dfC, pu_vl, pu_dc, pu_rw, pu_tb]) (by simp only [untagL, untag, tbT, stT, tbC, rwC, vlC, dfC, untag_vl, untag_dc, untag_rw, untag_tb]; rfl) rfl rfl ?_
 intro B w0
 conv => whnf
 refine .inl ?_
 conv => whnf
 refine InlG.mk (by kernel_rfl) Tryz.func60 rfl (Nat.le_of_ble_eq_true rfl) (XT.of tabX_ok ?_)
 conv => whnf
 refine XT.loop tabX_ok (Y := Nat) [4, 5, 8, 9, 10, 11, 12, 13, 14, 15, 16, 17, 18] (fun k => [(8, .p (.v (.int .i64 (k))) (nlv _))]) (fun k => []) (fun k => k ≤ t.c.length ∧ noP (fun d => d.k) t.c k) (fun k => t.c.length - k) 0 ⟨Nat.zero_le _, noP_0⟩ ?_ ?_
 ·exact qw33
 ·rintro k ⟨hk, hP⟩
  conv => whnf
  refine bS (fun hc1 => ?_) (fun hc1 => ?_)
  ·try simp only [bls] at hc1
   conv => whnf
   refine IdxG.map (l := t.c) _ rfl (by first | omega | (simp only [List.length_map] at *; omega)) ?_; intro x1 hx1 hnx1
   conv => whnf
   refine ⟨rfl, ?_⟩
   conv => whnf
   refine .inl ?_
   conv => whnf
   refine InlG.mk (by kernel_rfl) Tryz.func61 rfl (Nat.le_of_ble_eq_true rfl) (XT.of tabX_ok ?_)
   conv => whnf
   refine ⟨.inr rfl, ?_⟩
   conv => whnf
   refine bS (fun hc2 => ?_) (fun hc2 => ?_)
   ·try simp only [bls] at hc2
    conv => whnf
    refine ⟨.inr rfl, ?_⟩
    conv => whnf
    refine FinG.mk none ?_ (by rintro _ ⟨⟩)
    simp only [outs, List.length_map, List.length_append, List.length_take, List.length_drop, List.length_cons, List.length_nil, fr_by1]
    have hX : keyI t.c = (k : Int) := ixP_t hP hx1 (by first | assumption | (simp only [bsEq_t, bsEq_f]; assumption) | simp_all)
    rw [hX]
    simp
   ·try simp only [bls] at hc2
    conv => whnf
    refine ⟨(k + 1), ⟨by omega, noP_s hP hx1 (by first | assumption | (simp only [bsEq_t, bsEq_f]; assumption) | simp_all)⟩, by omega, ?_⟩
    exact qw33
  ·try simp only [bls] at hc1
   conv => whnf
   refine ⟨.inr rfl, ?_⟩
   conv => whnf
   refine FinG.mk none ?_ (by rintro _ ⟨⟩)
   simp only [outs, List.length_map, List.length_append, List.length_take, List.length_drop, List.length_cons, List.length_nil, fr_by1]
   have hX : keyI t.c = -1 := ixP_f hP (by omega)
   rw [hX]
   simp
/-- May a value stand in a column? -/
def fitB (d : Dfn) (v : Val) : Bool := rightB v && (decide (v.k = d.t) || (decide (v.k = 1) && !d.k && !d.nn))
def rowB (c : List Dfn) (r : List Val) : Bool := decide (r.length = c.length) && (r.zip c).all fun x => fitB x.2 x.1
def fitP (c : List Dfn) (r : List Val) (k : Nat) : Prop := ∀ (j : Nat) (v : Val) (d : Dfn), j < k → r[j]? = some v → c[j]? = some d → fitB d v = true
theorem fitP_0 (c : List Dfn) (r : List Val) : fitP c r 0 := fun j v d h => by omega
theorem fitP_s {c : List Dfn} {r : List Val} {k : Nat} {v : Val} {d : Dfn} (h : fitP c r k) (hv : r[k]? = some v) (hd : c[k]? = some d) (hf : fitB d v = true) : fitP c r (k + 1) := fun j v' d' hj hv' hd' => by
  rcases Nat.lt_or_ge j k with h1 | h1
  · exact h j v' d' h1 hv' hd'
  · obtain rfl : j = k := by omega
    rw [hv] at hv'; rw [hd] at hd'
    injection hv' with hv'; injection hd' with hd'
    rw [← hv', ← hd']; exact hf
theorem rowB_n {c : List Dfn} {r : List Val} (h : ¬ (r.length : Int) = c.length) : rowB c r = false := by
  unfold rowB
  rw [decide_eq_false (by omega), Bool.false_and]
theorem rowB_t {c : List Dfn} {r : List Val} {k : Nat} (hl : (r.length : Int) = c.length) (h : fitP c r k) (hk : r.length ≤ k) : rowB c r = true := by
  unfold rowB
  rw [decide_eq_true (by omega), Bool.true_and, List.all_eq_true]
  intro x hx
  obtain ⟨j, hj, rfl⟩ := List.getElem_of_mem hx
  rw [List.length_zip] at hj
  rw [List.getElem_zip]
  exact h j _ _ (by omega) (List.getElem?_eq_getElem (by omega)) (List.getElem?_eq_getElem (by omega))
theorem rowB_f {c : List Dfn} {r : List Val} {k : Nat} {v : Val} {d : Dfn} (hv : r[k]? = some v) (hd : c[k]? = some d) (hf : fitB d v = false) : rowB c r = false := by
  unfold rowB
  have : ((r.zip c).all fun x => fitB x.2 x.1) = false := by
    rw [List.all_eq_false]
    obtain ⟨h1, rfl⟩ := List.getElem?_eq_some_iff.1 hv
    obtain ⟨h2, rfl⟩ := List.getElem?_eq_some_iff.1 hd
    exact ⟨(r[k], c[k]), by rw [← List.getElem_zip (h := by rw [List.length_zip]; omega)]; exact List.getElem_mem _, by simp [hf]⟩
  rw [this, Bool.and_false]
set_option maxHeartbeats 4000000 in
set_option maxRecDepth 20000 in
theorem fits_T (b b2 b3 b4 : Bool) (t : Tbl) (r : List Val) (hn : t.c.length ≤ 100000) (hrn : r.length ≤ 100000) : XMeets Tryz.prog 58 [tbT b b2 b3 t, .sl b4 (r.map vlC)] (.p (.v (.bool (rowB t.c r))) (nlv _)) := by
 refine XMeets.of_X tabX_ok (avs := [.ag [.p (.v (.string (t.n))) (nlv _), .p (.sl false (t.c.map dfC)) (nl_dc _).sl, .p (.sl false (t.r.map (rwC false))) (nl_rw _ _).sl], .p (.sl false (r.map vlC)) (nl_vl _).sl]) [(0, .ag [.p (.v (.string (t.n))) (nlv _), .p (.sl false (t.c.map dfC)) (nl_dc _).sl, .p (.sl false (t.r.map (rwC false))) (nl_rw _ _).sl]), (1, .p (.sl false (r.map vlC)) (nl_vl _).sl)] (by kernel_rfl) Tryz.func58 rfl (by simp [PuL, Pu, tbT, stT, tbC, rwC, vlC, dfC, pu_vl, pu_dc, pu_rw, pu_tb]) (by simp only [untagL, untag, tbT, stT, tbC, rwC, vlC, dfC, untag_vl, untag_dc, untag_rw, untag_tb]; rfl) rfl rfl ?_
 intro B w0
 conv => whnf
 refine bS (fun hc1 => ?_) (fun hc1 => ?_)
 ·try simp only [bls] at hc1
  conv => whnf
  refine FinG.mk none ?_ (by rintro _ ⟨⟩)
  simp only [outs, List.length_map, List.length_append, List.length_take, List.length_drop, List.length_cons, List.length_nil, fr_by1]
  rw [rowB_n (by assumption)]
 ·try simp only [bls] at hc1
  conv => whnf
  refine XT.loop tabX_ok (Y := Nat) [4, 5, 6, 7, 8, 17, 18, 19, 20, 21, 22, 23, 24, 25, 26, 27, 28, 29, 30, 31, 32, 33, 34, 35, 36, 37, 38, 39, 40, 41, 42, 43, 44, 45, 46, 47, 48, 49, 50, 51, 52, 53, 54] (fun k => [(17, .p (.v (.int .i64 (k))) (nlv _))]) (fun k => []) (fun k => k ≤ r.length ∧ fitP t.c r k) (fun k => r.length - k) 0 ⟨Nat.zero_le _, fitP_0 _ _⟩ ?_ ?_
  ·exact qw30
  ·rintro k ⟨hk, hP⟩
   conv => whnf
   refine bS (fun hc2 => ?_) (fun hc2 => ?_)
   ·try simp only [bls] at hc2
    conv => whnf
    refine IdxG.map (l := r) _ rfl (by first | omega | (simp only [List.length_map] at *; omega)) ?_; intro v1 hv1 hnv1
    conv => whnf
    refine ⟨rfl, ?_⟩
    conv => whnf
    refine IdxG.map (l := t.c) _ rfl (by first | omega | (simp only [List.length_map] at *; omega)) ?_; intro x1 hx1 hnx1
    conv => whnf
    refine ⟨rfl, ?_⟩
    conv => whnf
    refine bS (fun hc3 => ?_) (fun hc3 => ?_)
    ·try simp only [bls] at hc3
     conv => whnf
     refine bT (by simp_all; done) ?_
     conv => whnf
     refine bT (by simp_all; done) ?_
     conv => whnf
     refine bT (by simp_all; done) ?_
     conv => whnf
     refine bS (fun hc4 => ?_) (fun hc4 => ?_)
     ·try simp only [bls] at hc4
      conv => whnf
      refine bT (by simp_all; done) ?_
      conv => whnf
      refine bT (by simp_all; done) ?_
      conv => whnf
      refine bT (by simp_all; done) ?_
      conv => whnf
      refine .ct ?_
      conv => whnf
      refine CallG.mk (check_X _) rfl ?_
      conv => whnf
      refine bS (fun hc5 => ?_) (fun hc5 => ?_)
      ·try simp only [bls] at hc5
       exact qw31
      ·try simp only [bls] at hc5
       conv => whnf
       refine bF (by simp_all; done) ?_
       conv => whnf
       refine bF (by simp_all; done) ?_
       conv => whnf
       refine bF (by simp_all; done) ?_
       conv => whnf
       refine bF (by simp_all; done) ?_
       conv => whnf
       refine bF (by simp_all; done) ?_
       conv => whnf
       refine bS (fun hc6 => ?_) (fun hc6 => ?_)
       ·try simp only [bls] at hc6
        conv => whnf
        refine bT (by simp_all; done) ?_
        conv => whnf
        refine bF (by simp_all; done) ?_
        conv => whnf
        refine bT (by simp_all; done) ?_
        conv => whnf
        refine bF (by simp_all; done) ?_
        conv => whnf
        refine bS (fun hc7 => ?_) (fun hc7 => ?_)
        ·try simp only [bls] at hc7
         exact qw34
        ·try simp only [bls] at hc7
         conv => whnf
         refine ⟨(k + 1), ⟨by omega, fitP_s hP hv1 hx1 (by simp_all [fitB, checkN_0]; done)⟩, by omega, ?_⟩
         exact qw30
       ·try simp only [bls] at hc6
        exact qw32
     ·try simp only [bls] at hc4
      conv => whnf
      refine bF (by simp_all; done) ?_
      conv => whnf
      refine bF (by simp_all; done) ?_
      conv => whnf
      refine bF (by simp_all; done) ?_
      conv => whnf
      refine .ct ?_
      conv => whnf
      refine CallG.mk (check_X _) rfl ?_
      conv => whnf
      refine bS (fun hc8 => ?_) (fun hc8 => ?_)
      ·try simp only [bls] at hc8
       exact qw31
      ·try simp only [bls] at hc8
       conv => whnf
       refine bF (by simp_all; done) ?_
       conv => whnf
       refine bF (by simp_all; done) ?_
       conv => whnf
       refine bF (by simp_all; done) ?_
       conv => whnf
       refine bF (by simp_all; done) ?_
       conv => whnf
       refine bF (by simp_all; done) ?_
       conv => whnf
       refine bS (fun hc9 => ?_) (fun hc9 => ?_)
       ·try simp only [bls] at hc9
        exact qw35
       ·try simp only [bls] at hc9
        exact qw32
    ·try simp only [bls] at hc3
     conv => whnf
     refine bF (by simp_all; done) ?_
     conv => whnf
     refine bF (by simp_all; done) ?_
     conv => whnf
     refine bF (by simp_all; done) ?_
     conv => whnf
     refine .ct ?_
     conv => whnf
     refine CallG.mk (check_X _) rfl ?_
     conv => whnf
     refine bS (fun hc10 => ?_) (fun hc10 => ?_)
     ·try simp only [bls] at hc10
      exact qw31
     ·try simp only [bls] at hc10
      conv => whnf
      refine bF (by simp_all; done) ?_
      conv => whnf
      refine bF (by simp_all; done) ?_
      conv => whnf
      refine bF (by simp_all; done) ?_
      conv => whnf
      refine bF (by simp_all; done) ?_
      conv => whnf
      refine bF (by simp_all; done) ?_
      conv => whnf
      refine bS (fun hc11 => ?_) (fun hc11 => ?_)
      ·try simp only [bls] at hc11
       exact qw35
      ·try simp only [bls] at hc11
       exact qw32
   ·try simp only [bls] at hc2
    conv => whnf
    refine FinG.mk none ?_ (by rintro _ ⟨⟩)
    simp only [outs, List.length_map, List.length_append, List.length_take, List.length_drop, List.length_cons, List.length_nil, fr_by1]
    rw [rowB_t (by omega) hP (by omega)]
end Go.Proofs.YtpgfhkbnngjegaaGreatDoor

namespace Go.Proofs.YtpgfhkbnngjegaaGreatDoor
open Go.RowKit
open Go.WideElems (Fit rg rd pl)
open Go.ChangeMaps (setBlock modify_eq_set)
open Go.WideMaps (KeyLaw)
open Go.MapKept
set_option linter.unusedVariables false
set_option linter.unusedSimpArgs false
section
variable {H : Type} {P : Program} {w : World} {t k e : TypeId} {R : Value → Option (DataW H × List MemPlace)} {b : Nat} {es : Array MapEntry} {clock : Nat}
end
end Go.Proofs.YtpgfhkbnngjegaaGreatDoor

namespace Go.Proofs.YtpgfhkbnngjegaaGreatDoor
open Go.RowKit
set_option linter.unusedVariables false
set_option linter.unusedSimpArgs false
set_option maxRecDepth 20000

/-- May it be a column? -/
def colB (d : Dfn) : Bool := nameB d.n && (decide (2 ≤ d.t) && decide (d.t ≤ 4)) && !(d.k && d.nn)
def clashB (d e : Dfn) : Bool := bsEq d.n e.n || (d.k && e.k)
def goodB : List Dfn → Bool
  | [] => true
  | d :: r => colB d && (r.all fun e => !clashB d e) && goodB r
/-- May a table's name and columns be? -/
def headB (n : ByteArray) (c : List Dfn) : Bool := nameB n && decide (1 ≤ c.length) && decide (c.length ≤ 6) && decide (0 ≤ keyI c) && goodB c
def goodP (c : List Dfn) (k : Nat) : Prop := (∀ (j : Nat) (d : Dfn), j < k → c[j]? = some d → colB d = true) ∧ ∀ (i j : Nat) (d e : Dfn), i < j → j < k → c[i]? = some d → c[j]? = some e → clashB d e = false
theorem goodB_iff : ∀ {c : List Dfn}, goodB c = true ↔ goodP c c.length
  | [] => by simp [goodB, goodP]
  | d :: r => by
    have ih := goodB_iff (c := r)
    unfold goodB
    rw [Bool.and_eq_true, Bool.and_eq_true, ih]
    constructor
    · rintro ⟨⟨h1, h2⟩, h3, h4⟩
      rw [List.all_eq_true] at h2
      refine ⟨fun j x hj hx => ?_, fun i j x y hij hj hx hy => ?_⟩
      · cases j with
        | zero => simp at hx; rw [← hx]; exact h1
        | succ j => exact h3 j x (by simpa using hj) (by simpa using hx)
      · cases j with
        | zero => omega
        | succ j =>
          have hy' : r[j]? = some y := by simpa using hy
          cases i with
          | zero =>
            simp at hx
            rw [← hx]
            have := h2 y (List.mem_of_getElem? hy')
            simpa using this
          | succ i => exact h4 i j x y (by omega) (by simpa using hj) (by simpa using hx) hy'
    · rintro ⟨h1, h2⟩
      refine ⟨⟨h1 0 d (by simp) rfl, ?_⟩, fun j x hj hx => h1 (j + 1) x (by simpa using hj) (by simpa using hx), fun i j x y hij hj hx hy => h2 (i + 1) (j + 1) x y (by omega) (by simpa using hj) (by simpa using hx) (by simpa using hy)⟩
      rw [List.all_eq_true]
      intro y hy
      obtain ⟨j, hj, rfl⟩ := List.getElem_of_mem hy
      have := h2 0 (j + 1) d r[j] (by omega) (by simpa using hj) rfl (by simp [hj])
      simp [this]
/-- The columns so far: their names are unlike, each may be. -/
def nmL (c : List Dfn) : List (List UInt8) := c.map fun d => bs d.n
def okN (n : ByteArray) (c : List Dfn) (k : Nat) : Bool := nameB n && decide (1 ≤ c.length) && decide (c.length ≤ 6) && (c.take k).all colB && decide ((nmL (c.take k)).Nodup)
def kyN (c : List Dfn) (k : Nat) : Int := ((c.take k).countP fun d => d.k : Nat)
theorem take_s {c : List Dfn} {k : Nat} {d : Dfn} (hd : c[k]? = some d) : c.take (k + 1) = c.take k ++ [d] := by
  obtain ⟨hk, rfl⟩ := List.getElem?_eq_some_iff.1 hd
  exact List.take_succ_eq_append_getElem hk
theorem okN_s {n : ByteArray} {c : List Dfn} {k : Nat} {d : Dfn} (hd : c[k]? = some d) : okN n c (k + 1) = (okN n c k && colB d && !decide (bs d.n ∈ nmL (c.take k))) := by
  unfold okN
  rw [take_s hd, List.all_append]
  have : (nmL (c.take k ++ [d])).Nodup ↔ (nmL (c.take k)).Nodup ∧ bs d.n ∉ nmL (c.take k) := by
    unfold nmL
    rw [List.map_append, List.nodup_append]
    constructor
    · rintro ⟨h1, _, h3⟩
      exact ⟨h1, fun h => h3 _ h _ (by simp) rfl⟩
    · rintro ⟨h1, h2⟩
      exact ⟨h1, by simp, fun a ha b hb e => by simp at hb; rw [e, hb] at ha; exact h2 ha⟩
  have e1 : decide ((nmL (c.take k ++ [d])).Nodup) = (decide ((nmL (c.take k)).Nodup) && !decide (bs d.n ∈ nmL (c.take k))) := by
    rw [Bool.eq_iff_iff]
    simp [this]
  rw [e1]
  generalize nameB n = b1
  generalize decide (1 ≤ c.length) = b2
  generalize decide (c.length ≤ 6) = b3
  generalize (c.take k).all colB = b4
  generalize decide ((nmL (c.take k)).Nodup) = b5
  generalize decide (bs d.n ∈ nmL (c.take k)) = b6
  have e2 : [d].all colB = colB d := by simp
  rw [e2]
  generalize colB d = b7
  cases b1 <;> cases b2 <;> cases b3 <;> cases b4 <;> cases b5 <;> cases b6 <;> cases b7 <;> rfl
theorem kyN_s {c : List Dfn} {k : Nat} {d : Dfn} (hd : c[k]? = some d) : kyN c (k + 1) = kyN c k + if d.k then 1 else 0 := by
  unfold kyN
  rw [take_s hd, List.countP_append]
  cases hdk : d.k <;> simp [hdk]
theorem kyN_le (c : List Dfn) (k : Nat) : 0 ≤ kyN c k ∧ kyN c k ≤ k := by
  unfold kyN
  have := List.countP_le_length (p := fun d : Dfn => d.k) (l := c.take k)
  simp at this
  omega
/-- The map of the names that were met. -/
structure MetD (D : DataW Unit) (c : List Dfn) : Prop where
  m : Maps.IsMap D
  a : ∀ s : ByteArray, D.atKey (.string (bs s)) (.lit (.bool false)) = .lit (.bool (decide (bs s ∈ nmL c)))
theorem metD_0 : MetD (.map []) [] := ⟨⟨[], rfl⟩, fun s => rfl⟩
theorem MetD.step {D : DataW Unit} {c : List Dfn} {k : Nat} {d : Dfn} (h : MetD D (c.take k)) (hd : c[k]? = some d) : MetD (D.put (.string (bs d.n)) (.lit (.bool true))) (c.take (k + 1)) where
  m := h.m.put _ _
  a := fun s => by
    rw [take_s hd]
    by_cases he : bs s = bs d.n
    · rw [he, Maps.atKey_put_same h.m (by trivial)]
      simp [nmL]
    · rw [Maps.atKey_put_other (fun e => he (by injection e)), h.a s]
      congr 3
      simp [nmL, he]
theorem str_key {P : Program} {t : TypeId} (ht : P.underlying t = some .string) {s : ByteArray} (hs : s.size ≤ 140737488355328) : keyOf P t (.string s) = some (.string (bs s)) := by
  exact Go.WideMaps.keyOf_string_mk ht (by unfold maxLen; omega)
theorem MetD.u {D : DataW Unit} {c : List Dfn} (h : MetD D c) {P : Program} (h4 : P.underlying 4 = some .bool) (s : ByteArray) : ∀ v ps, plainElem (H := Unit) P 4 v = some (D.atKey (.string (bs s)) (.lit (.bool false)), ps) → v = .bool (decide (bs s ∈ nmL c)) := fun v ps hv => by
  rw [h.a s] at hv
  unfold plainElem at hv
  rw [h4] at hv
  cases v <;> simp at hv
  rw [hv.1]
theorem head_eq (n : ByteArray) (c : List Dfn) : headB n c = (okN n c c.length && decide (kyN c c.length = 1)) := by
  have key : (decide (0 ≤ keyI c) && goodB c) = ((c.all colB && decide ((nmL c).Nodup)) && decide (kyN c c.length = 1)) := by
    rw [Bool.eq_iff_iff]
    simp only [Bool.and_eq_true, decide_eq_true_eq, List.all_eq_true]
    have hk : (0 ≤ keyI c) ↔ ∃ d ∈ c, d.k = true := by
      unfold keyI ixP
      cases h : c.findIdx? (fun d => d.k) with
      | none =>
        rw [List.findIdx?_eq_none_iff] at h
        simp
        intro d hd
        simpa using h d hd
      | some i =>
        obtain ⟨hi, h1, _⟩ := List.findIdx?_eq_some_iff_getElem.1 h
        exact ⟨fun _ => ⟨_, List.getElem_mem hi, h1⟩, fun _ => by simp⟩
    have hg : goodB c = true ↔ (∀ d ∈ c, colB d = true) ∧ c.Pairwise fun d e => clashB d e = false := by
      induction c with
      | nil => simp [goodB]
      | cons d r ih =>
        have ih := ih (by
          unfold keyI ixP
          cases h : r.findIdx? (fun d => d.k) with
          | none =>
            rw [List.findIdx?_eq_none_iff] at h
            simp
            intro d hd
            simpa using h d hd
          | some i =>
            obtain ⟨hi, h1, _⟩ := List.findIdx?_eq_some_iff_getElem.1 h
            exact ⟨fun _ => ⟨_, List.getElem_mem hi, h1⟩, fun _ => by simp⟩)
        unfold goodB
        rw [Bool.and_eq_true, Bool.and_eq_true, ih, List.pairwise_cons, List.all_eq_true]
        simp only [Bool.not_eq_true', List.mem_cons, forall_eq_or_imp]
        constructor
        · rintro ⟨⟨h1, h2⟩, h3, h4⟩; exact ⟨⟨h1, h3⟩, h2, h4⟩
        · rintro ⟨⟨h1, h3⟩, h2, h4⟩; exact ⟨⟨h1, h2⟩, h3, h4⟩
    have hp : (c.Pairwise fun d e => clashB d e = false) ↔ (nmL c).Nodup ∧ c.Pairwise fun d e => (d.k && e.k) = false := by
      unfold nmL List.Nodup
      rw [List.pairwise_map, ← List.pairwise_and_iff]
      constructor <;> intro h <;> refine h.imp fun {a b} hab => ?_
      · unfold clashB at hab
        simp only [Bool.or_eq_false_iff, bsEq_f] at hab
        exact hab
      · unfold clashB
        simp only [Bool.or_eq_false_iff, bsEq_f]
        exact hab
    have hc : ∀ l : List Dfn, ((∃ d ∈ l, d.k = true) ∧ l.Pairwise fun d e => (d.k && e.k) = false) ↔ l.countP (fun d => d.k) = 1 := by
      intro l
      induction l with
      | nil => simp
      | cons d r ih =>
        rw [List.countP_cons, List.pairwise_cons]
        cases hd : d.k with
        | false =>
          simp only [hd, Bool.false_and, Bool.false_eq_true, if_false, Nat.add_zero, ← ih]
          constructor
          · rintro ⟨⟨x, hx, hxk⟩, _, h⟩
            refine ⟨⟨x, ?_, hxk⟩, h⟩
            rcases List.mem_cons.1 hx with rfl | hx
            · rw [hd] at hxk; cases hxk
            · exact hx
          · rintro ⟨⟨x, hx, hxk⟩, h⟩
            exact ⟨⟨x, List.mem_cons_of_mem _ hx, hxk⟩, fun _ _ => trivial, h⟩
        | true =>
          simp only [hd, Bool.true_and, if_true]
          constructor
          · rintro ⟨_, h, _⟩
            have : r.countP (fun d => d.k) = 0 := by
              rw [List.countP_eq_zero]
              intro x hx
              rw [h x hx]; simp
            omega
          · intro h
            have h0 : r.countP (fun d => d.k) = 0 := by omega
            rw [List.countP_eq_zero] at h0
            refine ⟨⟨d, by simp, hd⟩, fun x hx => by have := h0 x hx; simpa using this, ?_⟩
            refine List.pairwise_of_forall_mem_list fun x hx y hy => ?_
            have := h0 x hx
            simp at this
            simp [this]
    rw [hk, hg, hp]
    have hcc := hc c
    have hky : kyN c c.length = 1 ↔ c.countP (fun d => d.k) = 1 := by unfold kyN; rw [List.take_length]; omega
    rw [hky, ← hcc]
    constructor
    · rintro ⟨h1, h2, h3, h4⟩; exact ⟨⟨h2, h3⟩, h1, h4⟩
    · rintro ⟨⟨h2, h3⟩, h1, h4⟩; exact ⟨h1, h2, h3, h4⟩
  unfold headB okN
  rw [Bool.and_assoc, key, List.take_length]
  simp only [Bool.and_assoc]
end Go.Proofs.YtpgfhkbnngjegaaGreatDoor
