/- Acts in a row, as they come in. No condition. -/
import Derived.Test.YtmhmldpccccjbaaNK
import Derived.Test.YtmhmldpccccjbaaN10
import Derived.Test.YtmhmldpccccjbaaU25
import Derived.Maps.Views
import Derived.Test.YtmhmldpccccjbaaNO
namespace Go.Proofs.Ytmhmldpccccjbaa
open Go.RowKit
open Go.WideElems (Fit rg rd pl)
set_option linter.unusedVariables false
set_option linter.unusedSimpArgs false
set_option maxRecDepth 20000

structure CntD (D : DataW Unit) (f : Lt → Int) : Prop where
  m : Maps.IsMap D
  a : ∀ x : Lt, x.wf → D.atKey (ltK x) (.lit (.int .i64 0)) = .lit (.int .i64 (f x))
theorem cntD_0 : CntD (.map []) (fun _ => 0) := ⟨⟨[], rfl⟩, fun x _ => rfl⟩
theorem CntD.put {D : DataW Unit} {f : Lt → Int} (h : CntD D f) {x : Lt} (hx : x.wf) (c : Int) : CntD (D.put (ltK x) (.lit (.int .i64 c))) (fun y => if x = y then c else f y) where
  m := by obtain ⟨es, rfl⟩ := h.m; exact ⟨_, rfl⟩
  a := fun y hy => by
    by_cases he : x = y
    · subst he
      rw [if_pos rfl]
      exact Maps.atKey_put_same h.m (by unfold ltK; trivial) _ _
    · rw [if_neg he, Maps.atKey_put_other (fun e => he (lt_inj hx hy e.symm))]
      exact h.a y hy
theorem CntD.of {D : DataW Unit} {f g : Lt → Int} (h : CntD D f) (hg : ∀ x, f x = g x) : CntD D g := ⟨h.m, fun x hx => by rw [h.a x hx, hg]⟩
theorem int_u (P : Program) (h3 : P.underlying 3 = some (.int .i64)) {D : DataW Unit} {c : Int} {kl : Lit} (h : D.atKey kl (.lit (.int .i64 0)) = .lit (.int .i64 c)) : ∀ v ps, plainElem (H := Unit) P 3 v = some (D.atKey kl (.lit (.int .i64 0)), ps) → v = .int .i64 c := fun v ps hv => by
  rw [h] at hv
  obtain ⟨a, rfl, h2, _⟩ := plainElem_int_inv h3 hv
  injection h2 with h2 _
  injection h2 with h2
  injection h2 with _ h2
  rw [h2]
theorem CntD.u {D : DataW Unit} {f : Lt → Int} (h : CntD D f) {x : Lt} (hx : x.wf) : ∀ v ps, plainElem (H := Unit) Try.prog 3 v = some (D.atKey (ltK x) (.lit (.int .i64 0)), ps) → v = .int .i64 (f x) := int_u _ Try.underlying3 (h.a x hx)
theorem zero3 (w : World) : (zeroValue 3).run Try.prog w = .ok (.int .i64 0) w := by go_simp
theorem plain3 {c : Int} (h : -9223372036854775808 ≤ c ∧ c < 9223372036854775808) : plainElem (H := Unit) Try.prog 3 (.int .i64 c) = some (.lit (.int .i64 c), []) := plainElem_int Try.underlying3 (wf_i h)
theorem add3 {o : Oper} {y z : Operand} (ho : o.op = .binOp .add 3 y z 3) {a b : Int} (hr : -9223372036854775808 ≤ a + b ∧ a + b < 9223372036854775808) (ev : Operand → Value) (w : World) (h1 : ev y = .int .i64 a) (h2 : ev z = .int .i64 b) : (execOp ev o).run Try.prog w = .ok (.value (.int .i64 (a + b))) w := by
  have hw : IntKind.i64.wrap (a + b) = a + b := wz.1 _ hr.1 (by omega)
  simp only [execOp, ho, h1, h2]
  go_simp
/-- An entry of a map that is told by its numbers. -/
theorem CntD.ent {D : DataW Unit} {f : Lt → Int} (h : CntD D f) {es : Array MapEntry} {clock : Nat} (w0 : World) (F : Fit Try.prog 59 (plainElem (H := Unit) Try.prog 3) es clock) (hD : D = .map ((es.toList.map (rg Try.prog 59 (plainElem (H := Unit) Try.prog 3))).foldr DataW.insert [])) {x : MapEntry} (hx : x ∈ es.toList) :
    ∃ y : Lt, y.wf ∧ x.key = y.v ∧ x.val = .int .i64 (f y) := by
  obtain ⟨yy, hr⟩ := F.reads x hx
  obtain ⟨y, hy, hk, hkl⟩ := lt_inv (Go.WideElems.rd_key hr)
  have hb : (w0.alloc (.map es clock)).heap[w0.heap.size]? = some (.map es clock) := heap_alloc_new w0 _
  rcases Maps.fit_look (t := 55) (z := .int .i64 0) false lt_keyed Try.underlying55 (zero3 (w0.alloc (.map es clock))) hb F (lt_key hy) with ⟨_, h3, _⟩ | ⟨e0, q, h3, h4, h5, h6, h7, _⟩
  · exact absurd hk (h3 x hx)
  · have : e0 = x := Go.entry_eq_of_key ((MapKept.stamped_iff es clock).1 F.stamped).2.2 h3 hx (h4.trans hk.symm)
    subst this
    refine ⟨y, hy, hk, ?_⟩
    have h8 := h7 (.lit (.int .i64 0))
    rw [← hD] at h8
    have h8 := (h.a y hy).symm.trans h8
    obtain ⟨a, h9, h10, _⟩ := plainElem_int_inv Try.underlying3 h6
    subst h10
    have h8 : DataW.lit (H := Unit) (.int .i64 (f y)) = .lit (.int .i64 a) := h8
    injection h8 with h8
    injection h8 with _ h8
    rw [h9, h8]
theorem fit_old {es : Array MapEntry} {clock : Nat} {P : Program} {k e : TypeId} (F : Fit P k (plainElem (H := Unit) P e) es clock) : (∀ x ∈ es.toList, x.born < clock) ∧ (es.toList.map (·.born)).Nodup := ⟨((MapKept.stamped_iff es clock).1 F.stamped).1, ((MapKept.stamped_iff es clock).1 F.stamped).2.1⟩
/-- What happens. -/
structure AcA where
  k : Int
  a : Int
  b : Int
  v : Int
def acC (x : AcA) : List TV := [.v (.int .i64 x.k), .v (.int .i64 x.a), .v (.int .i64 x.b), .v (.int .u8 x.v)]
theorem nl_ac (l : List AcA) : NlLL (l.map acC) := .map fun x _ => .cons (nlv _) (.cons (nlv _) (.cons (nlv _) (.cons (nlv _) .nil)))
theorem untag_ac (l : List AcA) : untagLL (l.map acC) = l.map acC := by rw [untagLL_map]; rfl
theorem pu_ac (l : List AcA) : PuLL (l.map acC) := PuLL_map _ _ fun x _ => by simp [acC, PuL, Pu]
structure AcA.In (x : AcA) : Prop where
  a : x.a < 9223372036854775808
  v : 0 ≤ x.v ∧ x.v < 256
def qOf (k : Int) : Int := (IntKind.u64.wrap k).tmod 9
theorem qOf_9 (k : Int) : qOf k < 9 := by
  unfold qOf
  simp only [wrs]
  have := Int.emod_nonneg k (b := 18446744073709551616) (by decide)
  rw [Int.tmod_eq_emod_of_nonneg this]
  omega
theorem qOf_0 (k : Int) : 0 ≤ qOf k := by
  unfold qOf
  simp only [wrs]
  have := Int.emod_nonneg k (b := 18446744073709551616) (by decide)
  rw [Int.tmod_eq_emod_of_nonneg this]
  omega
def netF (n : NetA) : XV := .ag [.p (.sl false (n.s.map (slC false))) (nl_sl _ _).sl, .p (.v (.int .i64 n.l)) (nlv _), .p (.sl false (n.d.map dfC)) (nl_df _).sl]
theorem dn_key (a b c : Int) : ∀ (C : Cx) (v : Value), Dn C (.agg [.v (.int .i64 a), .v (.int .i64 b), .v (.int .u8 c)]) v → v = (⟨a, b, c⟩ : Lt).v := fun C v h => by
  simp only [Dn, DnL] at h
  obtain ⟨vs, rfl, _, _, rfl, rfl, _, _, rfl, rfl, _, _, rfl, rfl, rfl⟩ := h
  rfl
theorem key_dn (y : Lt) (C : Cx) : Dn C (.agg [.v (.int .i64 y.f), .v (.int .i64 y.t), .v (.int .u8 y.b)]) y.v := by
  simp only [Dn, DnL]
  exact ⟨_, rfl, _, _, rfl, rfl, _, _, rfl, rfl, _, _, rfl, rfl, rfl⟩
theorem Stp.cnt {n m : NetA} {l : Lt} {c : Int} (h : Stp n m l c) {D : DataW Unit} (hD : CntD D (Go.Proofs.Ytmhmldpccccjbaa.cnt n.s)) : CntD (D.put (ltK l) (.lit (.int .i64 (Go.Proofs.Ytmhmldpccccjbaa.cnt n.s l + c)))) (Go.Proofs.Ytmhmldpccccjbaa.cnt m.s) := (hD.put h.wf _).of fun y => by
  rw [h.e y]
  by_cases he : l = y
  · subst he; simp
  · simp [he]
theorem cnt_s {s : List Sl} {k : Nat} {y : Sl} (hy : s[k]? = some y) (x : Lt) : cnt (s.take (k + 1)) x = cnt (s.take k) x + if ltS y = x then 1 else 0 := by
  obtain ⟨hk, rfl⟩ := List.getElem?_eq_some_iff.1 hy
  unfold cnt
  rw [List.take_succ_eq_append_getElem hk, List.countP_append]
  by_cases he : ltS s[k] = x <;> simp [he]
theorem CntD.step {s : List Sl} {k : Nat} {y : Sl} {D : DataW Unit} (hD : CntD D (cnt (s.take k))) (hy : s[k]? = some y) (hw : (ltS y).wf) : CntD (D.put (ltK (ltS y)) (.lit (.int .i64 (cnt (s.take k) (ltS y) + 1)))) (cnt (s.take (k + 1))) := (hD.put hw _).of fun z => by
  rw [cnt_s hy z]
  by_cases he : ltS y = z
  · subst he; simp
  · simp [he]
theorem cnt_tk (s : List Sl) (k : Nat) (x : Lt) : 0 ≤ cnt (s.take k) x ∧ cnt (s.take k) x ≤ s.length := by
  have := cnt_le (s.take k) x
  have h2 : (s.take k).length ≤ s.length := by simp; omega
  omega
theorem cnt_all {s : List Sl} {k : Nat} {D : DataW Unit} (hD : CntD D (cnt (s.take k))) (h : s.length ≤ k) : CntD D (cnt s) := by
  rwa [List.take_of_length_le h] at hD
end Go.Proofs.Ytmhmldpccccjbaa

namespace Go.Proofs.Ytmhmldpccccjbaa
open Go.RowKit
set_option linter.unusedVariables false
set_option linter.unusedSimpArgs false
set_option maxRecDepth 20000
theorem eqLt_run (x y : Operand) (a1 a2 a3 b1 b2 b3 : Int) (w : World) : (do eqGuard .eql 59 x y (.agg #[.int .i64 a1, .int .i64 a2, .int .u8 a3]) (.agg #[.int .i64 b1, .int .i64 b2, .int .u8 b3]); binOp .eql 59 (.agg #[.int .i64 a1, .int .i64 a2, .int .u8 a3]) (.agg #[.int .i64 b1, .int .i64 b2, .int .u8 b3]) : Sem Value).run Try.prog w = .ok (.bool (decide (a1 = b1) && decide (a2 = b2) && decide (a3 = b3))) w := by
  go_simp
  by_cases h1 : a1 = b1 <;> by_cases h2 : a2 = b2 <;> by_cases h3 : a3 = b3 <;> simp [h1, h2, h3]
theorem of_Y (c : Bool) (x : Sl) (h : x.b.length = 1) : XMeets Try.prog 26 [.agg [.v (.int .i64 x.f), .v (.int .i64 x.t), .sl c (x.b.map by1)]] (.tu [.ag [.p (.v (.int .i64 x.f)) (nlv _), .p (.v (.int .i64 x.t)) (nlv _), .p (.v (.int .u8 (x.b.headD 0))) (nlv _)], .p (.v (.bool true)) (nlv _)]) := by
  have h1 := of_X c x.f x.t x.b
  simp only [lofV, h, if_true, decide_true] at h1
  exact h1
theorem check_Y (b c e : Bool) (n : NetA) (h : C1 n) : XMeets Try.prog 22 [netT b c e n] (.p (.v (.int .i64 0)) (nlv _)) := by
  have h1 := check_X b c e n h.ok
  rw [if_pos h.rb] at h1
  exact h1
set_option maxHeartbeats 4000000 in
set_option maxRecDepth 20000 in
theorem lCounts_X (b : Bool) (acts : List AcA) (hin : ∀ x ∈ acts, x.In) (han : acts.length ≤ 9223372036854775807) : XMeets Try.prog 6 [.sl b (acts.map acC)] (.p (.v (.bool (true))) (nlv _)) := by
  refine XMeets.of_XM [(9, .row 0), (23, .row 0), (24, .row 0), (25, .row 0)] tabX_ok (avs := [.p (.sl false (acts.map acC)) (nl_ac _).sl]) [(0, .p (.sl false (acts.map acC)) (nl_ac _).sl)] (by kernel_rfl) Try.func6 rfl (by simp [PuL, Pu, netT, slC, dfC, sdC, pu_by1, pu_sl, pu_df, pu_sd, acC, pu_ac]) (by simp only [untagL, untag, netT, untag_by1, untag_sl, untag_df, untag_sd, untag_ac]; rfl) rfl rfl ?_
  intro B w0
  conv => whnf
  refine .ct ?_
  conv => whnf
  refine CallG.mk (wakes_X) rfl ?_
  conv => whnf
  refine MapTG.mk Try.underlying55 ?_
  conv => whnf
  refine XT.loop tabX_ok (Y := Nat × NetA × DataW Unit) [2, 4, 5, 6, 7, 8, 9, 10, 11, 13, 14, 15, 16, 17, 20, 23, 24, 25, 26, 27, 28, 29, 30, 31, 32, 33, 34, 35, 36, 37, 38, 39, 40, 41, 42, 43, 44, 45, 46, 47, 48, 49, 50, 51, 52, 53, 54, 55, 56, 57, 58, 59, 60, 61, 62, 63, 64, 65, 66, 67, 68, 69, 70, 71, 72, 73, 74, 75, 76, 77, 78, 79, 80, 81, 82, 83, 84, 85, 86, 87, 88] (fun (i, n, D) => [(23, .p (.v (.int .i64 ((i : Int)))) (nlv _)), (4, .row 1)]) (fun (i, n, D) => [(0, .cells 25 [.p (.sl true (n.s.map (slC true))) (nl_sl _ _).sl, .p (.v (.int .i64 n.l)) (nlv _), .p (.sl true (n.d.map dfC)) (nl_df _).sl]), (1, .ext (mapX Try.prog 59 3 i D))]) (fun (i, n, D) => i ≤ 100 ∧ C1 n ∧ CntD D (cnt n.s)) (fun (i, n, D) => 101 - i) (0, net0, .map []) ⟨by omega, c1_0, cntD_0.of (fun x => rfl)⟩ ?_ ?_
  · skip
    refine ⟨?_, ?_, ?_⟩
    · skip
      refine leEnv_app (by kernel_rfl) (by kernel_rfl) ?_
      repeat ((conv => whnf); first | exact True.intro | refine ⟨.rfl, ?_⟩ | refine ⟨.any, ?_⟩ | refine ⟨.nil, ?_⟩ | refine ⟨.int (by first | rfl | omega | (simp only [wrs]; omega)), ?_⟩)
    · skip
      repeat (first | exact LeVs.nil | ((conv => whnf); first | exact True.intro | exact .none | exact .ext | exact .row rfl | refine .cells ?_ | refine ⟨_, _, rfl, .rfl, ?_⟩ | refine ⟨_, _, rfl, .any, ?_⟩ | refine ⟨_, _, rfl, .nil, ?_⟩ | refine ⟨_, _, rfl, .int (by first | rfl | omega | (simp only [wrs]; omega)), ?_⟩ | refine ⟨?_, ?_⟩))
      done
    · skip
      exact LeFr.same (by kernel_rfl)
  · skip
    rintro ⟨i, n, D⟩ ⟨hi, hC, hD⟩
    conv => whnf
    refine bS (fun hc1 => ?_) (fun hc1 => ?_)
    · skip
      try simp only [bls] at hc1
      conv => whnf
      refine IdxG.map (l := acts) _ rfl (by first | omega | (simp only [List.length_map] at *; omega)) ?_; intro x hx hnx; have hv := (hin x (List.mem_of_getElem? hx)).v; have ha := (hin x (List.mem_of_getElem? hx)).a
      conv => whnf
      refine ⟨rfl, ?_⟩
      conv => whnf
      refine bS (fun hc2 => ?_) (fun hc2 => ?_)
      · skip
        try simp only [bls] at hc2
        conv => whnf
        refine FinG.mk none ?_ (by rintro _ ⟨⟩)
        simp only [outs, List.length_map, List.length_append, List.length_take, List.length_drop, List.length_cons, List.length_nil, slC, dfC, netX, net0, List.map_nil, mix_len, pkX, slX, sl0, delS]
      · skip
        try simp only [bls] at hc2
        conv => whnf
        obtain ⟨mx, lx, cx, hdo⟩ := hC.does x.a x.b x.v (qOf_0 x.k)
        have hst := hdo.stp hC hv
        have hq0 := qOf_0 x.k
        have hq9 := qOf_9 x.k
        have ho := hC.ok
        unfold qOf at hdo hq0 hq9
        refine XT.cut3 tabX_ok (Y := NetA × DataW Unit) [7, 8, 9, 10, 11, 12, 13, 14, 15, 16, 17, 30, 31, 32, 33, 34, 35, 36, 37, 38, 39, 40, 41, 42, 43, 44, 45, 46, 47, 48, 49, 50, 51, 52, 53, 54, 55, 56, 57, 58, 59, 60, 61, 62, 63, 64, 65, 66, 67, 68, 69, 70, 71, 72, 73, 74, 75, 76, 77, 78, 79, 80, 81, 82, 83, 84, 85, 86, 87] (fun (m, D2) => []) (fun (m, D2) => [(0, .cells 25 [.p (.sl true (m.s.map (slC true))) (nl_sl _ _).sl, .p (.v (.int .i64 m.l)) (nlv _), .p (.sl true (m.d.map dfC)) (nl_df _).sl]), (1, .ext (mapX Try.prog 59 3 (i + 1) D2))]) (fun (m, D2) => C1 m ∧ CntD D2 (cnt m.s)) ?_ ?_
        · skip
          rcases hdo with ⟨m, s, e, hq, hs, hm, hl⟩ | ⟨m, s, e, hq, hs, hm, hl⟩ | ⟨m, s, e, e2, hq, hs, hm, he⟩ | ⟨m, s, e, hq, hq2, hs, hm, hb⟩ | ⟨m, s, s2, e, e2, hq, hq2, hs, hm, he⟩ | ⟨m, s, e, hq, hs, hm, hb⟩ | ⟨m, s, e, e2, hq, hs, hm, he⟩ | ⟨m, s, e, hq, hs, hm, hb⟩ | ⟨m, s, e, e2, hq, hs, hm, he⟩ | ⟨m, s, e, hq, hs, hm⟩ | ⟨m, s, e, e2, hq, hs, hm, he⟩ | ⟨m, s, e, hq, hs, hm⟩ | ⟨m, s, e, e2, hq, hs, hm, he⟩
          · skip
            conv => whnf
            refine .inl ?_
            conv => whnf
            refine InlG.mk (by kernel_rfl) Try.func25 rfl (Nat.le_of_ble_eq_true rfl) (XT.of tabX_ok ?_)
            conv => whnf
            refine .ct ?_
            conv => whnf
            refine CallG.mk (meantX_X true true true n x.a ho ha _ hs.symm) rfl ?_
            conv => whnf
            refine .ct ?_
            conv => whnf
            refine CallG.mk (of_X _ _ _ _) rfl ?_
            conv => whnf
            refine bS (fun hc3 => ?_) (fun hc3 => ?_)
            · skip
              try simp only [bls] at hc3
              try simp (disch := omega) only [wz, Int.reduceAdd, Int.reduceSub, Int.reduceMul, Int.reduceNeg, Int.zero_add, Int.add_zero, Int.sub_zero, Int.sub_self] at hc3
              conv => whnf
              refine bT (decide_eq_true (by first | omega | (simp only [List.length_map]; omega))) ?_
              conv => whnf
              refine .ct ?_
              conv => whnf
              refine CallG.mk (send_X true true true true true n x.a [(x.b, [x.v])] ho (by intro m hm; simp only [List.mem_cons, List.not_mem_nil, or_false] at hm; subst hm; simp) (by simp) _ hm.symm) rfl ?_
              conv => whnf
              refine bT (decide_eq_true (by first | omega | (simp only [List.length_map]; omega))) ?_
              conv => whnf
              refine RegG.know 12 [⟨8, 5, 0, 3, true⟩, ⟨9, 6, 0, 3, false⟩] (by kernel_rfl) (by kernel_rfl) ?_
              conv => whnf
              refine ⟨rfl, ?_⟩
              conv => whnf
              refine ⟨rfl, ?_⟩
              conv => whnf
              refine ⟨.inr rfl, ?_⟩
              conv => whnf
              refine .ct ?_
              conv => whnf
              refine CallG.mk (check_Y _ _ _ _ hst.c1) rfl ?_
              conv => whnf
              refine RegG.bump8 1 (d0 := 46) (d1 := 47) (d2 := 48) (d3 := 49) (d4 := 50) (d5 := 51) (d6 := 52) (yv := .int .i64 1) (u := .int .i64 (cnt n.s (⟨x.a, x.b, x.v⟩ : Lt))) (val := .int .i64 (cnt n.s (⟨x.a, x.b, x.v⟩ : Lt) + 1)) (by kernel_rfl) rfl rfl rfl rfl rfl rfl rfl rfl rfl rfl rfl rfl rfl rfl rfl (by intro X; (conv => whnf); exact ⟨rfl, rfl⟩) (dn_key _ _ _) (add3 rfl (by have h1 := cnt_le n.s (⟨x.a, x.b, x.v⟩ : Lt); have h2 := hC.len; omega)) lt_law Try.underlying55 zero3 (plain3 (by decide)) (by simp [maxLen]; omega) (lt_key (x := (⟨x.a, x.b, x.v⟩ : Lt)) hst.wf) (hD.u hst.wf) (plain3 (by have h1 := cnt_le n.s (⟨x.a, x.b, x.v⟩ : Lt); have h2 := hC.len; omega)) ?_
              conv => whnf
              refine ⟨(_, _), ⟨hst.c1, hst.cnt hD⟩, [], ?_⟩
              refine ⟨?_, ?_, ?_⟩
              · skip
                refine leEnv_app (by kernel_rfl) (by kernel_rfl) ?_
                repeat ((conv => whnf); first | exact True.intro | refine ⟨.rfl, ?_⟩ | refine ⟨.any, ?_⟩ | refine ⟨.nil, ?_⟩ | refine ⟨.int (by first | rfl | omega | (simp only [wrs]; omega)), ?_⟩)
              · skip
                repeat (first | exact LeVs.nil | ((conv => whnf); first | exact True.intro | exact .none | exact .ext | exact .row rfl | refine .cells ?_ | refine ⟨_, _, rfl, .rfl, ?_⟩ | refine ⟨_, _, rfl, .any, ?_⟩ | refine ⟨_, _, rfl, .nil, ?_⟩ | refine ⟨_, _, rfl, .int (by first | rfl | omega | (simp only [wrs]; omega)), ?_⟩ | refine ⟨?_, ?_⟩))
                done
              · skip
                exact LeFr.same (by kernel_rfl)
            · skip
              try simp only [bls] at hc3
              try simp (disch := omega) only [wz, Int.reduceAdd, Int.reduceSub, Int.reduceMul, Int.reduceNeg, Int.zero_add, Int.add_zero, Int.sub_zero, Int.sub_self] at hc3
              conv => whnf
              refine bS (fun hc4 => ?_) (fun hc4 => ?_)
              · skip
                try simp only [bls] at hc4
                try simp (disch := omega) only [wz, Int.reduceAdd, Int.reduceSub, Int.reduceMul, Int.reduceNeg, Int.zero_add, Int.add_zero, Int.sub_zero, Int.sub_self] at hc4
                conv => whnf
                refine bT (decide_eq_true (by first | omega | (simp only [List.length_map]; omega))) ?_
                conv => whnf
                refine .ct ?_
                conv => whnf
                refine CallG.mk (send_X true true true true true n x.a [(x.b, [x.v])] ho (by intro m hm; simp only [List.mem_cons, List.not_mem_nil, or_false] at hm; subst hm; simp) (by simp) _ hm.symm) rfl ?_
                conv => whnf
                refine bT (decide_eq_true (by first | omega | (simp only [List.length_map]; omega))) ?_
                conv => whnf
                refine RegG.know 12 [⟨8, 5, 0, 3, true⟩, ⟨9, 6, 0, 3, false⟩] (by kernel_rfl) (by kernel_rfl) ?_
                conv => whnf
                refine ⟨rfl, ?_⟩
                conv => whnf
                refine ⟨rfl, ?_⟩
                conv => whnf
                refine ⟨.inr rfl, ?_⟩
                conv => whnf
                refine .ct ?_
                conv => whnf
                refine CallG.mk (check_Y _ _ _ _ hst.c1) rfl ?_
                conv => whnf
                refine RegG.bump8 1 (d0 := 46) (d1 := 47) (d2 := 48) (d3 := 49) (d4 := 50) (d5 := 51) (d6 := 52) (yv := .int .i64 1) (u := .int .i64 (cnt n.s (⟨x.a, x.b, x.v⟩ : Lt))) (val := .int .i64 (cnt n.s (⟨x.a, x.b, x.v⟩ : Lt) + 1)) (by kernel_rfl) rfl rfl rfl rfl rfl rfl rfl rfl rfl rfl rfl rfl rfl rfl rfl (by intro X; (conv => whnf); exact ⟨rfl, rfl⟩) (dn_key _ _ _) (add3 rfl (by have h1 := cnt_le n.s (⟨x.a, x.b, x.v⟩ : Lt); have h2 := hC.len; omega)) lt_law Try.underlying55 zero3 (plain3 (by decide)) (by simp [maxLen]; omega) (lt_key (x := (⟨x.a, x.b, x.v⟩ : Lt)) hst.wf) (hD.u hst.wf) (plain3 (by have h1 := cnt_le n.s (⟨x.a, x.b, x.v⟩ : Lt); have h2 := hC.len; omega)) ?_
                conv => whnf
                refine ⟨(_, _), ⟨hst.c1, hst.cnt hD⟩, [], ?_⟩
                refine ⟨?_, ?_, ?_⟩
                · skip
                  refine leEnv_app (by kernel_rfl) (by kernel_rfl) ?_
                  repeat ((conv => whnf); first | exact True.intro | refine ⟨.rfl, ?_⟩ | refine ⟨.any, ?_⟩ | refine ⟨.nil, ?_⟩ | refine ⟨.int (by first | rfl | omega | (simp only [wrs]; omega)), ?_⟩)
                · skip
                  repeat (first | exact LeVs.nil | ((conv => whnf); first | exact True.intro | exact .none | exact .ext | exact .row rfl | refine .cells ?_ | refine ⟨_, _, rfl, .rfl, ?_⟩ | refine ⟨_, _, rfl, .any, ?_⟩ | refine ⟨_, _, rfl, .nil, ?_⟩ | refine ⟨_, _, rfl, .int (by first | rfl | omega | (simp only [wrs]; omega)), ?_⟩ | refine ⟨?_, ?_⟩))
                  done
                · skip
                  exact LeFr.same (by kernel_rfl)
              · skip
                try simp only [bls] at hc4
                try simp (disch := omega) only [wz, Int.reduceAdd, Int.reduceSub, Int.reduceMul, Int.reduceNeg, Int.zero_add, Int.add_zero, Int.sub_zero, Int.sub_self] at hc4
                conv => whnf
                refine bT (decide_eq_true (by first | omega | (simp only [List.length_map]; omega))) ?_
                conv => whnf
                refine .ct ?_
                conv => whnf
                refine CallG.mk (send_X true true true true true n x.a [(x.b, [x.v])] ho (by intro m hm; simp only [List.mem_cons, List.not_mem_nil, or_false] at hm; subst hm; simp) (by simp) _ hm.symm) rfl ?_
                conv => whnf
                refine bT (decide_eq_true (by first | omega | (simp only [List.length_map]; omega))) ?_
                conv => whnf
                refine RegG.know 12 [⟨8, 5, 0, 3, true⟩, ⟨9, 6, 0, 3, false⟩] (by kernel_rfl) (by kernel_rfl) ?_
                conv => whnf
                refine ⟨rfl, ?_⟩
                conv => whnf
                refine ⟨rfl, ?_⟩
                conv => whnf
                refine ⟨.inr rfl, ?_⟩
                conv => whnf
                refine .ct ?_
                conv => whnf
                refine CallG.mk (check_Y _ _ _ _ hst.c1) rfl ?_
                conv => whnf
                refine RegG.bump8 1 (d0 := 46) (d1 := 47) (d2 := 48) (d3 := 49) (d4 := 50) (d5 := 51) (d6 := 52) (yv := .int .i64 1) (u := .int .i64 (cnt n.s (⟨x.a, x.b, x.v⟩ : Lt))) (val := .int .i64 (cnt n.s (⟨x.a, x.b, x.v⟩ : Lt) + 1)) (by kernel_rfl) rfl rfl rfl rfl rfl rfl rfl rfl rfl rfl rfl rfl rfl rfl rfl (by intro X; (conv => whnf); exact ⟨rfl, rfl⟩) (dn_key _ _ _) (add3 rfl (by have h1 := cnt_le n.s (⟨x.a, x.b, x.v⟩ : Lt); have h2 := hC.len; omega)) lt_law Try.underlying55 zero3 (plain3 (by decide)) (by simp [maxLen]; omega) (lt_key (x := (⟨x.a, x.b, x.v⟩ : Lt)) hst.wf) (hD.u hst.wf) (plain3 (by have h1 := cnt_le n.s (⟨x.a, x.b, x.v⟩ : Lt); have h2 := hC.len; omega)) ?_
                conv => whnf
                refine ⟨(_, _), ⟨hst.c1, hst.cnt hD⟩, [], ?_⟩
                refine ⟨?_, ?_, ?_⟩
                · skip
                  refine leEnv_app (by kernel_rfl) (by kernel_rfl) ?_
                  repeat ((conv => whnf); first | exact True.intro | refine ⟨.rfl, ?_⟩ | refine ⟨.any, ?_⟩ | refine ⟨.nil, ?_⟩ | refine ⟨.int (by first | rfl | omega | (simp only [wrs]; omega)), ?_⟩)
                · skip
                  repeat (first | exact LeVs.nil | ((conv => whnf); first | exact True.intro | exact .none | exact .ext | exact .row rfl | refine .cells ?_ | refine ⟨_, _, rfl, .rfl, ?_⟩ | refine ⟨_, _, rfl, .any, ?_⟩ | refine ⟨_, _, rfl, .nil, ?_⟩ | refine ⟨_, _, rfl, .int (by first | rfl | omega | (simp only [wrs]; omega)), ?_⟩ | refine ⟨?_, ?_⟩))
                  done
                · skip
                  exact LeFr.same (by kernel_rfl)
          · skip
            conv => whnf
            refine .inl ?_
            conv => whnf
            refine InlG.mk (by kernel_rfl) Try.func25 rfl (Nat.le_of_ble_eq_true rfl) (XT.of tabX_ok ?_)
            conv => whnf
            refine .ct ?_
            conv => whnf
            refine CallG.mk (meantX_X true true true n x.a ho ha _ hs.symm) rfl ?_
            conv => whnf
            refine .ct ?_
            conv => whnf
            refine CallG.mk (of_X _ _ _ _) rfl ?_
            conv => whnf
            refine bS (fun hc5 => ?_) (fun hc5 => ?_)
            · skip
              try simp only [bls] at hc5
              try simp (disch := omega) only [wz, Int.reduceAdd, Int.reduceSub, Int.reduceMul, Int.reduceNeg, Int.zero_add, Int.add_zero, Int.sub_zero, Int.sub_self] at hc5
              conv => whnf
              refine bT (decide_eq_true (by first | omega | (simp only [List.length_map]; omega))) ?_
              conv => whnf
              refine .ct ?_
              conv => whnf
              refine CallG.mk (send_X true true true true true n x.a [(x.b, [x.v])] ho (by intro m hm; simp only [List.mem_cons, List.not_mem_nil, or_false] at hm; subst hm; simp) (by simp) _ hm.symm) rfl ?_
              conv => whnf
              refine bF (decide_eq_false (by first | omega | (simp only [List.length_map]; omega))) ?_
              conv => whnf
              refine ⟨.inr rfl, ?_⟩
              conv => whnf
              refine .ct ?_
              conv => whnf
              refine CallG.mk (check_Y _ _ _ _ hst.c1) rfl ?_
              conv => whnf
              refine RegG.bump8 1 (d0 := 46) (d1 := 47) (d2 := 48) (d3 := 49) (d4 := 50) (d5 := 51) (d6 := 52) (yv := .int .i64 0) (u := .int .i64 (cnt n.s l0)) (val := .int .i64 (cnt n.s l0 + 0)) (by kernel_rfl) rfl rfl rfl rfl rfl rfl rfl rfl rfl rfl rfl rfl rfl rfl rfl (by intro X; (conv => whnf); exact ⟨rfl, rfl⟩) (dn_key _ _ _) (add3 rfl (by have h1 := cnt_le n.s l0; have h2 := hC.len; omega)) lt_law Try.underlying55 zero3 (plain3 (by decide)) (by simp [maxLen]; omega) (lt_key (x := l0) hst.wf) (hD.u hst.wf) (plain3 (by have h1 := cnt_le n.s l0; have h2 := hC.len; omega)) ?_
              conv => whnf
              refine ⟨(_, _), ⟨hst.c1, hst.cnt hD⟩, [], ?_⟩
              refine ⟨?_, ?_, ?_⟩
              · skip
                refine leEnv_app (by kernel_rfl) (by kernel_rfl) ?_
                repeat ((conv => whnf); first | exact True.intro | refine ⟨.rfl, ?_⟩ | refine ⟨.any, ?_⟩ | refine ⟨.nil, ?_⟩ | refine ⟨.int (by first | rfl | omega | (simp only [wrs]; omega)), ?_⟩)
              · skip
                repeat (first | exact LeVs.nil | ((conv => whnf); first | exact True.intro | exact .none | exact .ext | exact .row rfl | refine .cells ?_ | refine ⟨_, _, rfl, .rfl, ?_⟩ | refine ⟨_, _, rfl, .any, ?_⟩ | refine ⟨_, _, rfl, .nil, ?_⟩ | refine ⟨_, _, rfl, .int (by first | rfl | omega | (simp only [wrs]; omega)), ?_⟩ | refine ⟨?_, ?_⟩))
                done
              · skip
                exact LeFr.same (by kernel_rfl)
            · skip
              try simp only [bls] at hc5
              try simp (disch := omega) only [wz, Int.reduceAdd, Int.reduceSub, Int.reduceMul, Int.reduceNeg, Int.zero_add, Int.add_zero, Int.sub_zero, Int.sub_self] at hc5
              conv => whnf
              refine bS (fun hc6 => ?_) (fun hc6 => ?_)
              · skip
                try simp only [bls] at hc6
                try simp (disch := omega) only [wz, Int.reduceAdd, Int.reduceSub, Int.reduceMul, Int.reduceNeg, Int.zero_add, Int.add_zero, Int.sub_zero, Int.sub_self] at hc6
                conv => whnf
                refine bT (decide_eq_true (by first | omega | (simp only [List.length_map]; omega))) ?_
                conv => whnf
                refine .ct ?_
                conv => whnf
                refine CallG.mk (send_X true true true true true n x.a [(x.b, [x.v])] ho (by intro m hm; simp only [List.mem_cons, List.not_mem_nil, or_false] at hm; subst hm; simp) (by simp) _ hm.symm) rfl ?_
                conv => whnf
                refine bF (decide_eq_false (by first | omega | (simp only [List.length_map]; omega))) ?_
                conv => whnf
                refine ⟨.inr rfl, ?_⟩
                conv => whnf
                refine .ct ?_
                conv => whnf
                refine CallG.mk (check_Y _ _ _ _ hst.c1) rfl ?_
                conv => whnf
                refine RegG.bump8 1 (d0 := 46) (d1 := 47) (d2 := 48) (d3 := 49) (d4 := 50) (d5 := 51) (d6 := 52) (yv := .int .i64 0) (u := .int .i64 (cnt n.s l0)) (val := .int .i64 (cnt n.s l0 + 0)) (by kernel_rfl) rfl rfl rfl rfl rfl rfl rfl rfl rfl rfl rfl rfl rfl rfl rfl (by intro X; (conv => whnf); exact ⟨rfl, rfl⟩) (dn_key _ _ _) (add3 rfl (by have h1 := cnt_le n.s l0; have h2 := hC.len; omega)) lt_law Try.underlying55 zero3 (plain3 (by decide)) (by simp [maxLen]; omega) (lt_key (x := l0) hst.wf) (hD.u hst.wf) (plain3 (by have h1 := cnt_le n.s l0; have h2 := hC.len; omega)) ?_
                conv => whnf
                refine ⟨(_, _), ⟨hst.c1, hst.cnt hD⟩, [], ?_⟩
                refine ⟨?_, ?_, ?_⟩
                · skip
                  refine leEnv_app (by kernel_rfl) (by kernel_rfl) ?_
                  repeat ((conv => whnf); first | exact True.intro | refine ⟨.rfl, ?_⟩ | refine ⟨.any, ?_⟩ | refine ⟨.nil, ?_⟩ | refine ⟨.int (by first | rfl | omega | (simp only [wrs]; omega)), ?_⟩)
                · skip
                  repeat (first | exact LeVs.nil | ((conv => whnf); first | exact True.intro | exact .none | exact .ext | exact .row rfl | refine .cells ?_ | refine ⟨_, _, rfl, .rfl, ?_⟩ | refine ⟨_, _, rfl, .any, ?_⟩ | refine ⟨_, _, rfl, .nil, ?_⟩ | refine ⟨_, _, rfl, .int (by first | rfl | omega | (simp only [wrs]; omega)), ?_⟩ | refine ⟨?_, ?_⟩))
                  done
                · skip
                  exact LeFr.same (by kernel_rfl)
              · skip
                try simp only [bls] at hc6
                try simp (disch := omega) only [wz, Int.reduceAdd, Int.reduceSub, Int.reduceMul, Int.reduceNeg, Int.zero_add, Int.add_zero, Int.sub_zero, Int.sub_self] at hc6
                conv => whnf
                refine bT (decide_eq_true (by first | omega | (simp only [List.length_map]; omega))) ?_
                conv => whnf
                refine .ct ?_
                conv => whnf
                refine CallG.mk (send_X true true true true true n x.a [(x.b, [x.v])] ho (by intro m hm; simp only [List.mem_cons, List.not_mem_nil, or_false] at hm; subst hm; simp) (by simp) _ hm.symm) rfl ?_
                conv => whnf
                refine bF (decide_eq_false (by first | omega | (simp only [List.length_map]; omega))) ?_
                conv => whnf
                refine ⟨.inr rfl, ?_⟩
                conv => whnf
                refine .ct ?_
                conv => whnf
                refine CallG.mk (check_Y _ _ _ _ hst.c1) rfl ?_
                conv => whnf
                refine RegG.bump8 1 (d0 := 46) (d1 := 47) (d2 := 48) (d3 := 49) (d4 := 50) (d5 := 51) (d6 := 52) (yv := .int .i64 0) (u := .int .i64 (cnt n.s l0)) (val := .int .i64 (cnt n.s l0 + 0)) (by kernel_rfl) rfl rfl rfl rfl rfl rfl rfl rfl rfl rfl rfl rfl rfl rfl rfl (by intro X; (conv => whnf); exact ⟨rfl, rfl⟩) (dn_key _ _ _) (add3 rfl (by have h1 := cnt_le n.s l0; have h2 := hC.len; omega)) lt_law Try.underlying55 zero3 (plain3 (by decide)) (by simp [maxLen]; omega) (lt_key (x := l0) hst.wf) (hD.u hst.wf) (plain3 (by have h1 := cnt_le n.s l0; have h2 := hC.len; omega)) ?_
                conv => whnf
                refine ⟨(_, _), ⟨hst.c1, hst.cnt hD⟩, [], ?_⟩
                refine ⟨?_, ?_, ?_⟩
                · skip
                  refine leEnv_app (by kernel_rfl) (by kernel_rfl) ?_
                  repeat ((conv => whnf); first | exact True.intro | refine ⟨.rfl, ?_⟩ | refine ⟨.any, ?_⟩ | refine ⟨.nil, ?_⟩ | refine ⟨.int (by first | rfl | omega | (simp only [wrs]; omega)), ?_⟩)
                · skip
                  repeat (first | exact LeVs.nil | ((conv => whnf); first | exact True.intro | exact .none | exact .ext | exact .row rfl | refine .cells ?_ | refine ⟨_, _, rfl, .rfl, ?_⟩ | refine ⟨_, _, rfl, .any, ?_⟩ | refine ⟨_, _, rfl, .nil, ?_⟩ | refine ⟨_, _, rfl, .int (by first | rfl | omega | (simp only [wrs]; omega)), ?_⟩ | refine ⟨?_, ?_⟩))
                  done
                · skip
                  exact LeFr.same (by kernel_rfl)
          · skip
            conv => whnf
            refine .inl ?_
            conv => whnf
            refine InlG.mk (by kernel_rfl) Try.func25 rfl (Nat.le_of_ble_eq_true rfl) (XT.of tabX_ok ?_)
            conv => whnf
            refine .ct ?_
            conv => whnf
            refine CallG.mk (meantX_X true true true n x.a ho ha _ hs.symm) rfl ?_
            conv => whnf
            refine .ct ?_
            conv => whnf
            refine CallG.mk (of_X _ _ _ _) rfl ?_
            conv => whnf
            refine bS (fun hc7 => ?_) (fun hc7 => ?_)
            · skip
              try simp only [bls] at hc7
              try simp (disch := omega) only [wz, Int.reduceAdd, Int.reduceSub, Int.reduceMul, Int.reduceNeg, Int.zero_add, Int.add_zero, Int.sub_zero, Int.sub_self] at hc7
              conv => whnf
              refine bT (decide_eq_true (by first | omega | (simp only [List.length_map]; omega))) ?_
              conv => whnf
              refine .ct ?_
              conv => whnf
              refine CallG.mk (send_X true true true true true n x.a [(x.b, [x.v])] ho (by intro m hm; simp only [List.mem_cons, List.not_mem_nil, or_false] at hm; subst hm; simp) (by simp) _ hm.symm) rfl ?_
              conv => whnf
              refine bF (decide_eq_false (by first | omega | (simp only [List.length_map]; omega))) ?_
              conv => whnf
              refine bF (decide_eq_false (by first | omega | (simp only [List.length_map]; omega))) ?_
              conv => whnf
              refine bF (decide_eq_false (by first | omega | (simp only [List.length_map]; omega))) ?_
              conv => whnf
              refine bF (decide_eq_false (by first | omega | (simp only [List.length_map]; omega))) ?_
              conv => whnf
              refine bF (decide_eq_false (by first | omega | (simp only [List.length_map]; omega))) ?_
              conv => whnf
              refine bF (decide_eq_false (by first | omega | (simp only [List.length_map]; omega))) ?_
              conv => whnf
              refine bF (decide_eq_false (by first | omega | (simp only [List.length_map]; omega))) ?_
              conv => whnf
              refine bF (decide_eq_false (by first | omega | (simp only [List.length_map]; omega))) ?_
              conv => whnf
              refine bT (by simp [he]; done) ?_
              conv => whnf
              refine ⟨.inr rfl, ?_⟩
              conv => whnf
              refine .ct ?_
              conv => whnf
              refine CallG.mk (check_Y _ _ _ _ hst.c1) rfl ?_
              conv => whnf
              refine RegG.bump8 1 (d0 := 46) (d1 := 47) (d2 := 48) (d3 := 49) (d4 := 50) (d5 := 51) (d6 := 52) (yv := .int .i64 0) (u := .int .i64 (cnt n.s l0)) (val := .int .i64 (cnt n.s l0 + 0)) (by kernel_rfl) rfl rfl rfl rfl rfl rfl rfl rfl rfl rfl rfl rfl rfl rfl rfl (by intro X; (conv => whnf); exact ⟨rfl, rfl⟩) (dn_key _ _ _) (add3 rfl (by have h1 := cnt_le n.s l0; have h2 := hC.len; omega)) lt_law Try.underlying55 zero3 (plain3 (by decide)) (by simp [maxLen]; omega) (lt_key (x := l0) hst.wf) (hD.u hst.wf) (plain3 (by have h1 := cnt_le n.s l0; have h2 := hC.len; omega)) ?_
              conv => whnf
              refine ⟨(_, _), ⟨hst.c1, hst.cnt hD⟩, [], ?_⟩
              refine ⟨?_, ?_, ?_⟩
              · skip
                refine leEnv_app (by kernel_rfl) (by kernel_rfl) ?_
                repeat ((conv => whnf); first | exact True.intro | refine ⟨.rfl, ?_⟩ | refine ⟨.any, ?_⟩ | refine ⟨.nil, ?_⟩ | refine ⟨.int (by first | rfl | omega | (simp only [wrs]; omega)), ?_⟩)
              · skip
                repeat (first | exact LeVs.nil | ((conv => whnf); first | exact True.intro | exact .none | exact .ext | exact .row rfl | refine .cells ?_ | refine ⟨_, _, rfl, .rfl, ?_⟩ | refine ⟨_, _, rfl, .any, ?_⟩ | refine ⟨_, _, rfl, .nil, ?_⟩ | refine ⟨_, _, rfl, .int (by first | rfl | omega | (simp only [wrs]; omega)), ?_⟩ | refine ⟨?_, ?_⟩))
                done
              · skip
                exact LeFr.same (by kernel_rfl)
            · skip
              try simp only [bls] at hc7
              try simp (disch := omega) only [wz, Int.reduceAdd, Int.reduceSub, Int.reduceMul, Int.reduceNeg, Int.zero_add, Int.add_zero, Int.sub_zero, Int.sub_self] at hc7
              conv => whnf
              refine bS (fun hc8 => ?_) (fun hc8 => ?_)
              · skip
                try simp only [bls] at hc8
                try simp (disch := omega) only [wz, Int.reduceAdd, Int.reduceSub, Int.reduceMul, Int.reduceNeg, Int.zero_add, Int.add_zero, Int.sub_zero, Int.sub_self] at hc8
                conv => whnf
                refine bT (decide_eq_true (by first | omega | (simp only [List.length_map]; omega))) ?_
                conv => whnf
                refine .ct ?_
                conv => whnf
                refine CallG.mk (send_X true true true true true n x.a [(x.b, [x.v])] ho (by intro m hm; simp only [List.mem_cons, List.not_mem_nil, or_false] at hm; subst hm; simp) (by simp) _ hm.symm) rfl ?_
                conv => whnf
                refine bF (decide_eq_false (by first | omega | (simp only [List.length_map]; omega))) ?_
                conv => whnf
                refine bF (decide_eq_false (by first | omega | (simp only [List.length_map]; omega))) ?_
                conv => whnf
                refine bF (decide_eq_false (by first | omega | (simp only [List.length_map]; omega))) ?_
                conv => whnf
                refine bF (decide_eq_false (by first | omega | (simp only [List.length_map]; omega))) ?_
                conv => whnf
                refine bF (decide_eq_false (by first | omega | (simp only [List.length_map]; omega))) ?_
                conv => whnf
                refine bF (decide_eq_false (by first | omega | (simp only [List.length_map]; omega))) ?_
                conv => whnf
                refine bF (decide_eq_false (by first | omega | (simp only [List.length_map]; omega))) ?_
                conv => whnf
                refine bF (decide_eq_false (by first | omega | (simp only [List.length_map]; omega))) ?_
                conv => whnf
                refine bT (by simp [he]; done) ?_
                conv => whnf
                refine ⟨.inr rfl, ?_⟩
                conv => whnf
                refine .ct ?_
                conv => whnf
                refine CallG.mk (check_Y _ _ _ _ hst.c1) rfl ?_
                conv => whnf
                refine RegG.bump8 1 (d0 := 46) (d1 := 47) (d2 := 48) (d3 := 49) (d4 := 50) (d5 := 51) (d6 := 52) (yv := .int .i64 0) (u := .int .i64 (cnt n.s l0)) (val := .int .i64 (cnt n.s l0 + 0)) (by kernel_rfl) rfl rfl rfl rfl rfl rfl rfl rfl rfl rfl rfl rfl rfl rfl rfl (by intro X; (conv => whnf); exact ⟨rfl, rfl⟩) (dn_key _ _ _) (add3 rfl (by have h1 := cnt_le n.s l0; have h2 := hC.len; omega)) lt_law Try.underlying55 zero3 (plain3 (by decide)) (by simp [maxLen]; omega) (lt_key (x := l0) hst.wf) (hD.u hst.wf) (plain3 (by have h1 := cnt_le n.s l0; have h2 := hC.len; omega)) ?_
                conv => whnf
                refine ⟨(_, _), ⟨hst.c1, hst.cnt hD⟩, [], ?_⟩
                refine ⟨?_, ?_, ?_⟩
                · skip
                  refine leEnv_app (by kernel_rfl) (by kernel_rfl) ?_
                  repeat ((conv => whnf); first | exact True.intro | refine ⟨.rfl, ?_⟩ | refine ⟨.any, ?_⟩ | refine ⟨.nil, ?_⟩ | refine ⟨.int (by first | rfl | omega | (simp only [wrs]; omega)), ?_⟩)
                · skip
                  repeat (first | exact LeVs.nil | ((conv => whnf); first | exact True.intro | exact .none | exact .ext | exact .row rfl | refine .cells ?_ | refine ⟨_, _, rfl, .rfl, ?_⟩ | refine ⟨_, _, rfl, .any, ?_⟩ | refine ⟨_, _, rfl, .nil, ?_⟩ | refine ⟨_, _, rfl, .int (by first | rfl | omega | (simp only [wrs]; omega)), ?_⟩ | refine ⟨?_, ?_⟩))
                  done
                · skip
                  exact LeFr.same (by kernel_rfl)
              · skip
                try simp only [bls] at hc8
                try simp (disch := omega) only [wz, Int.reduceAdd, Int.reduceSub, Int.reduceMul, Int.reduceNeg, Int.zero_add, Int.add_zero, Int.sub_zero, Int.sub_self] at hc8
                conv => whnf
                refine bT (decide_eq_true (by first | omega | (simp only [List.length_map]; omega))) ?_
                conv => whnf
                refine .ct ?_
                conv => whnf
                refine CallG.mk (send_X true true true true true n x.a [(x.b, [x.v])] ho (by intro m hm; simp only [List.mem_cons, List.not_mem_nil, or_false] at hm; subst hm; simp) (by simp) _ hm.symm) rfl ?_
                conv => whnf
                refine bF (decide_eq_false (by first | omega | (simp only [List.length_map]; omega))) ?_
                conv => whnf
                refine bF (decide_eq_false (by first | omega | (simp only [List.length_map]; omega))) ?_
                conv => whnf
                refine bF (decide_eq_false (by first | omega | (simp only [List.length_map]; omega))) ?_
                conv => whnf
                refine bF (decide_eq_false (by first | omega | (simp only [List.length_map]; omega))) ?_
                conv => whnf
                refine bF (decide_eq_false (by first | omega | (simp only [List.length_map]; omega))) ?_
                conv => whnf
                refine bF (decide_eq_false (by first | omega | (simp only [List.length_map]; omega))) ?_
                conv => whnf
                refine bF (decide_eq_false (by first | omega | (simp only [List.length_map]; omega))) ?_
                conv => whnf
                refine bF (decide_eq_false (by first | omega | (simp only [List.length_map]; omega))) ?_
                conv => whnf
                refine bT (by simp [he]; done) ?_
                conv => whnf
                refine ⟨.inr rfl, ?_⟩
                conv => whnf
                refine .ct ?_
                conv => whnf
                refine CallG.mk (check_Y _ _ _ _ hst.c1) rfl ?_
                conv => whnf
                refine RegG.bump8 1 (d0 := 46) (d1 := 47) (d2 := 48) (d3 := 49) (d4 := 50) (d5 := 51) (d6 := 52) (yv := .int .i64 0) (u := .int .i64 (cnt n.s l0)) (val := .int .i64 (cnt n.s l0 + 0)) (by kernel_rfl) rfl rfl rfl rfl rfl rfl rfl rfl rfl rfl rfl rfl rfl rfl rfl (by intro X; (conv => whnf); exact ⟨rfl, rfl⟩) (dn_key _ _ _) (add3 rfl (by have h1 := cnt_le n.s l0; have h2 := hC.len; omega)) lt_law Try.underlying55 zero3 (plain3 (by decide)) (by simp [maxLen]; omega) (lt_key (x := l0) hst.wf) (hD.u hst.wf) (plain3 (by have h1 := cnt_le n.s l0; have h2 := hC.len; omega)) ?_
                conv => whnf
                refine ⟨(_, _), ⟨hst.c1, hst.cnt hD⟩, [], ?_⟩
                refine ⟨?_, ?_, ?_⟩
                · skip
                  refine leEnv_app (by kernel_rfl) (by kernel_rfl) ?_
                  repeat ((conv => whnf); first | exact True.intro | refine ⟨.rfl, ?_⟩ | refine ⟨.any, ?_⟩ | refine ⟨.nil, ?_⟩ | refine ⟨.int (by first | rfl | omega | (simp only [wrs]; omega)), ?_⟩)
                · skip
                  repeat (first | exact LeVs.nil | ((conv => whnf); first | exact True.intro | exact .none | exact .ext | exact .row rfl | refine .cells ?_ | refine ⟨_, _, rfl, .rfl, ?_⟩ | refine ⟨_, _, rfl, .any, ?_⟩ | refine ⟨_, _, rfl, .nil, ?_⟩ | refine ⟨_, _, rfl, .int (by first | rfl | omega | (simp only [wrs]; omega)), ?_⟩ | refine ⟨?_, ?_⟩))
                  done
                · skip
                  exact LeFr.same (by kernel_rfl)
          · skip
            conv => whnf
            refine .inl ?_
            conv => whnf
            refine InlG.mk (by kernel_rfl) Try.func25 rfl (Nat.le_of_ble_eq_true rfl) (XT.of tabX_ok ?_)
            conv => whnf
            refine .ct ?_
            conv => whnf
            refine CallG.mk (meantX_X true true true n x.a ho ha _ hs.symm) rfl ?_
            conv => whnf
            refine .ct ?_
            conv => whnf
            refine CallG.mk (of_Y _ s hb) rfl ?_
            conv => whnf
            refine bF (decide_eq_false (by first | omega | (simp only [List.length_map]; omega))) ?_
            conv => whnf
            refine bF (decide_eq_false (by first | omega | (simp only [List.length_map]; omega))) ?_
            conv => whnf
            refine bF (decide_eq_false (by first | omega | (simp only [List.length_map]; omega))) ?_
            conv => whnf
            refine bS (fun hc9 => ?_) (fun hc9 => ?_)
            · skip
              try simp only [bls] at hc9
              try simp (disch := omega) only [wz, Int.reduceAdd, Int.reduceSub, Int.reduceMul, Int.reduceNeg, Int.zero_add, Int.add_zero, Int.sub_zero, Int.sub_self] at hc9
              conv => whnf
              refine bT (decide_eq_true (by first | omega | (simp only [List.length_map]; omega))) ?_
              conv => whnf
              refine .ct ?_
              conv => whnf
              refine CallG.mk (deliver_X true true true n x.a ho ha _ hm.symm) rfl ?_
              conv => whnf
              refine .ct ?_
              conv => whnf
              refine CallG.mk (of_Y _ s hb) rfl ?_
              conv => whnf
              refine RegG.know 11 [⟨8, 5, 0, 3, true⟩, ⟨9, 6, 0, 3, true⟩] (by kernel_rfl) (by kernel_rfl) ?_
              conv => whnf
              refine BinG.mk rfl rfl (eqLt_run _ _ _ _ _ _ _ _) ?_
              conv => whnf
              refine ⟨rfl, ?_⟩
              conv => whnf
              refine ⟨rfl, ?_⟩
              conv => whnf
              refine ⟨.inr rfl, ?_⟩
              conv => whnf
              refine bF (by simp; done) ?_
              conv => whnf
              refine bF (by simp; done) ?_
              conv => whnf
              refine .ct ?_
              conv => whnf
              refine CallG.mk (check_Y _ _ _ _ hst.c1) rfl ?_
              conv => whnf
              refine bF (by simp; done) ?_
              conv => whnf
              refine bF (by simp; done) ?_
              conv => whnf
              refine RegG.bump8 1 (d0 := 46) (d1 := 47) (d2 := 48) (d3 := 49) (d4 := 50) (d5 := 51) (d6 := 52) (yv := .int .i64 (-1)) (u := .int .i64 (cnt n.s (ltS s))) (val := .int .i64 (cnt n.s (ltS s) + (-1))) (by kernel_rfl) rfl rfl rfl rfl rfl rfl rfl rfl rfl rfl rfl rfl rfl rfl rfl (by intro X; (conv => whnf); exact ⟨rfl, rfl⟩) (dn_key _ _ _) (add3 rfl (by have h1 := cnt_le n.s (ltS s); have h2 := hC.len; omega)) lt_law Try.underlying55 zero3 (plain3 (by decide)) (by simp [maxLen]; omega) (lt_key (x := (ltS s)) hst.wf) (hD.u hst.wf) (plain3 (by have h1 := cnt_le n.s (ltS s); have h2 := hC.len; omega)) ?_
              conv => whnf
              refine ⟨(_, _), ⟨hst.c1, hst.cnt hD⟩, [], ?_⟩
              refine ⟨?_, ?_, ?_⟩
              · skip
                refine leEnv_app (by kernel_rfl) (by kernel_rfl) ?_
                repeat ((conv => whnf); first | exact True.intro | refine ⟨.rfl, ?_⟩ | refine ⟨.any, ?_⟩ | refine ⟨.nil, ?_⟩ | refine ⟨.int (by first | rfl | omega | (simp only [wrs]; omega)), ?_⟩)
              · skip
                repeat (first | exact LeVs.nil | ((conv => whnf); first | exact True.intro | exact .none | exact .ext | exact .row rfl | refine .cells ?_ | refine ⟨_, _, rfl, .rfl, ?_⟩ | refine ⟨_, _, rfl, .any, ?_⟩ | refine ⟨_, _, rfl, .nil, ?_⟩ | refine ⟨_, _, rfl, .int (by first | rfl | omega | (simp only [wrs]; omega)), ?_⟩ | refine ⟨?_, ?_⟩))
                done
              · skip
                exact LeFr.same (by kernel_rfl)
            · skip
              try simp only [bls] at hc9
              try simp (disch := omega) only [wz, Int.reduceAdd, Int.reduceSub, Int.reduceMul, Int.reduceNeg, Int.zero_add, Int.add_zero, Int.sub_zero, Int.sub_self] at hc9
              conv => whnf
              refine bT (decide_eq_true (by first | omega | (simp only [List.length_map]; omega))) ?_
              conv => whnf
              refine .ct ?_
              conv => whnf
              refine CallG.mk (deliver_X true true true n x.a ho ha _ hm.symm) rfl ?_
              conv => whnf
              refine .ct ?_
              conv => whnf
              refine CallG.mk (of_Y _ s hb) rfl ?_
              conv => whnf
              refine RegG.know 11 [⟨8, 5, 0, 3, true⟩, ⟨9, 6, 0, 3, true⟩] (by kernel_rfl) (by kernel_rfl) ?_
              conv => whnf
              refine BinG.mk rfl rfl (eqLt_run _ _ _ _ _ _ _ _) ?_
              conv => whnf
              refine ⟨rfl, ?_⟩
              conv => whnf
              refine ⟨rfl, ?_⟩
              conv => whnf
              refine ⟨.inr rfl, ?_⟩
              conv => whnf
              refine bF (by simp; done) ?_
              conv => whnf
              refine bF (by simp; done) ?_
              conv => whnf
              refine .ct ?_
              conv => whnf
              refine CallG.mk (check_Y _ _ _ _ hst.c1) rfl ?_
              conv => whnf
              refine bF (by simp; done) ?_
              conv => whnf
              refine bF (by simp; done) ?_
              conv => whnf
              refine RegG.bump8 1 (d0 := 46) (d1 := 47) (d2 := 48) (d3 := 49) (d4 := 50) (d5 := 51) (d6 := 52) (yv := .int .i64 (-1)) (u := .int .i64 (cnt n.s (ltS s))) (val := .int .i64 (cnt n.s (ltS s) + (-1))) (by kernel_rfl) rfl rfl rfl rfl rfl rfl rfl rfl rfl rfl rfl rfl rfl rfl rfl (by intro X; (conv => whnf); exact ⟨rfl, rfl⟩) (dn_key _ _ _) (add3 rfl (by have h1 := cnt_le n.s (ltS s); have h2 := hC.len; omega)) lt_law Try.underlying55 zero3 (plain3 (by decide)) (by simp [maxLen]; omega) (lt_key (x := (ltS s)) hst.wf) (hD.u hst.wf) (plain3 (by have h1 := cnt_le n.s (ltS s); have h2 := hC.len; omega)) ?_
              conv => whnf
              refine ⟨(_, _), ⟨hst.c1, hst.cnt hD⟩, [], ?_⟩
              refine ⟨?_, ?_, ?_⟩
              · skip
                refine leEnv_app (by kernel_rfl) (by kernel_rfl) ?_
                repeat ((conv => whnf); first | exact True.intro | refine ⟨.rfl, ?_⟩ | refine ⟨.any, ?_⟩ | refine ⟨.nil, ?_⟩ | refine ⟨.int (by first | rfl | omega | (simp only [wrs]; omega)), ?_⟩)
              · skip
                repeat (first | exact LeVs.nil | ((conv => whnf); first | exact True.intro | exact .none | exact .ext | exact .row rfl | refine .cells ?_ | refine ⟨_, _, rfl, .rfl, ?_⟩ | refine ⟨_, _, rfl, .any, ?_⟩ | refine ⟨_, _, rfl, .nil, ?_⟩ | refine ⟨_, _, rfl, .int (by first | rfl | omega | (simp only [wrs]; omega)), ?_⟩ | refine ⟨?_, ?_⟩))
                done
              · skip
                exact LeFr.same (by kernel_rfl)
          · skip
            conv => whnf
            refine .inl ?_
            conv => whnf
            refine InlG.mk (by kernel_rfl) Try.func25 rfl (Nat.le_of_ble_eq_true rfl) (XT.of tabX_ok ?_)
            conv => whnf
            refine .ct ?_
            conv => whnf
            refine CallG.mk (meantX_X true true true n x.a ho ha _ hs.symm) rfl ?_
            conv => whnf
            refine .ct ?_
            conv => whnf
            refine CallG.mk (of_X _ _ _ _) rfl ?_
            conv => whnf
            refine bF (decide_eq_false (by first | omega | (simp only [List.length_map]; omega))) ?_
            conv => whnf
            refine bF (decide_eq_false (by first | omega | (simp only [List.length_map]; omega))) ?_
            conv => whnf
            refine bF (decide_eq_false (by first | omega | (simp only [List.length_map]; omega))) ?_
            conv => whnf
            refine bS (fun hc10 => ?_) (fun hc10 => ?_)
            · skip
              try simp only [bls] at hc10
              try simp (disch := omega) only [wz, Int.reduceAdd, Int.reduceSub, Int.reduceMul, Int.reduceNeg, Int.zero_add, Int.add_zero, Int.sub_zero, Int.sub_self] at hc10
              conv => whnf
              refine bT (decide_eq_true (by first | omega | (simp only [List.length_map]; omega))) ?_
              conv => whnf
              refine .ct ?_
              conv => whnf
              refine CallG.mk (deliver_X true true true n x.a ho ha _ hm.symm) rfl ?_
              conv => whnf
              refine bF (decide_eq_false (by first | omega | (simp only [List.length_map]; omega))) ?_
              conv => whnf
              refine bT (by simp [he]; done) ?_
              conv => whnf
              refine ⟨.inr rfl, ?_⟩
              conv => whnf
              refine .ct ?_
              conv => whnf
              refine CallG.mk (check_Y _ _ _ _ hst.c1) rfl ?_
              conv => whnf
              refine RegG.bump8 1 (d0 := 46) (d1 := 47) (d2 := 48) (d3 := 49) (d4 := 50) (d5 := 51) (d6 := 52) (yv := .int .i64 0) (u := .int .i64 (cnt n.s l0)) (val := .int .i64 (cnt n.s l0 + 0)) (by kernel_rfl) rfl rfl rfl rfl rfl rfl rfl rfl rfl rfl rfl rfl rfl rfl rfl (by intro X; (conv => whnf); exact ⟨rfl, rfl⟩) (dn_key _ _ _) (add3 rfl (by have h1 := cnt_le n.s l0; have h2 := hC.len; omega)) lt_law Try.underlying55 zero3 (plain3 (by decide)) (by simp [maxLen]; omega) (lt_key (x := l0) hst.wf) (hD.u hst.wf) (plain3 (by have h1 := cnt_le n.s l0; have h2 := hC.len; omega)) ?_
              conv => whnf
              refine ⟨(_, _), ⟨hst.c1, hst.cnt hD⟩, [], ?_⟩
              refine ⟨?_, ?_, ?_⟩
              · skip
                refine leEnv_app (by kernel_rfl) (by kernel_rfl) ?_
                repeat ((conv => whnf); first | exact True.intro | refine ⟨.rfl, ?_⟩ | refine ⟨.any, ?_⟩ | refine ⟨.nil, ?_⟩ | refine ⟨.int (by first | rfl | omega | (simp only [wrs]; omega)), ?_⟩)
              · skip
                repeat (first | exact LeVs.nil | ((conv => whnf); first | exact True.intro | exact .none | exact .ext | exact .row rfl | refine .cells ?_ | refine ⟨_, _, rfl, .rfl, ?_⟩ | refine ⟨_, _, rfl, .any, ?_⟩ | refine ⟨_, _, rfl, .nil, ?_⟩ | refine ⟨_, _, rfl, .int (by first | rfl | omega | (simp only [wrs]; omega)), ?_⟩ | refine ⟨?_, ?_⟩))
                done
              · skip
                exact LeFr.same (by kernel_rfl)
            · skip
              try simp only [bls] at hc10
              try simp (disch := omega) only [wz, Int.reduceAdd, Int.reduceSub, Int.reduceMul, Int.reduceNeg, Int.zero_add, Int.add_zero, Int.sub_zero, Int.sub_self] at hc10
              conv => whnf
              refine bT (decide_eq_true (by first | omega | (simp only [List.length_map]; omega))) ?_
              conv => whnf
              refine .ct ?_
              conv => whnf
              refine CallG.mk (deliver_X true true true n x.a ho ha _ hm.symm) rfl ?_
              conv => whnf
              refine bF (decide_eq_false (by first | omega | (simp only [List.length_map]; omega))) ?_
              conv => whnf
              refine bT (by simp [he]; done) ?_
              conv => whnf
              refine ⟨.inr rfl, ?_⟩
              conv => whnf
              refine .ct ?_
              conv => whnf
              refine CallG.mk (check_Y _ _ _ _ hst.c1) rfl ?_
              conv => whnf
              refine RegG.bump8 1 (d0 := 46) (d1 := 47) (d2 := 48) (d3 := 49) (d4 := 50) (d5 := 51) (d6 := 52) (yv := .int .i64 0) (u := .int .i64 (cnt n.s l0)) (val := .int .i64 (cnt n.s l0 + 0)) (by kernel_rfl) rfl rfl rfl rfl rfl rfl rfl rfl rfl rfl rfl rfl rfl rfl rfl (by intro X; (conv => whnf); exact ⟨rfl, rfl⟩) (dn_key _ _ _) (add3 rfl (by have h1 := cnt_le n.s l0; have h2 := hC.len; omega)) lt_law Try.underlying55 zero3 (plain3 (by decide)) (by simp [maxLen]; omega) (lt_key (x := l0) hst.wf) (hD.u hst.wf) (plain3 (by have h1 := cnt_le n.s l0; have h2 := hC.len; omega)) ?_
              conv => whnf
              refine ⟨(_, _), ⟨hst.c1, hst.cnt hD⟩, [], ?_⟩
              refine ⟨?_, ?_, ?_⟩
              · skip
                refine leEnv_app (by kernel_rfl) (by kernel_rfl) ?_
                repeat ((conv => whnf); first | exact True.intro | refine ⟨.rfl, ?_⟩ | refine ⟨.any, ?_⟩ | refine ⟨.nil, ?_⟩ | refine ⟨.int (by first | rfl | omega | (simp only [wrs]; omega)), ?_⟩)
              · skip
                repeat (first | exact LeVs.nil | ((conv => whnf); first | exact True.intro | exact .none | exact .ext | exact .row rfl | refine .cells ?_ | refine ⟨_, _, rfl, .rfl, ?_⟩ | refine ⟨_, _, rfl, .any, ?_⟩ | refine ⟨_, _, rfl, .nil, ?_⟩ | refine ⟨_, _, rfl, .int (by first | rfl | omega | (simp only [wrs]; omega)), ?_⟩ | refine ⟨?_, ?_⟩))
                done
              · skip
                exact LeFr.same (by kernel_rfl)
          · skip
            conv => whnf
            refine .inl ?_
            conv => whnf
            refine InlG.mk (by kernel_rfl) Try.func25 rfl (Nat.le_of_ble_eq_true rfl) (XT.of tabX_ok ?_)
            conv => whnf
            refine .ct ?_
            conv => whnf
            refine CallG.mk (meantX_X true true true n x.a ho ha _ hs.symm) rfl ?_
            conv => whnf
            refine .ct ?_
            conv => whnf
            refine CallG.mk (of_Y _ s hb) rfl ?_
            conv => whnf
            refine bF (decide_eq_false (by first | omega | (simp only [List.length_map]; omega))) ?_
            conv => whnf
            refine bF (decide_eq_false (by first | omega | (simp only [List.length_map]; omega))) ?_
            conv => whnf
            refine bF (decide_eq_false (by first | omega | (simp only [List.length_map]; omega))) ?_
            conv => whnf
            refine bF (decide_eq_false (by first | omega | (simp only [List.length_map]; omega))) ?_
            conv => whnf
            refine bF (decide_eq_false (by first | omega | (simp only [List.length_map]; omega))) ?_
            conv => whnf
            refine bT (decide_eq_true (by first | omega | (simp only [List.length_map]; omega))) ?_
            conv => whnf
            refine .ct ?_
            conv => whnf
            refine CallG.mk (lose_X true true true n x.a ho ha _ hm.symm) rfl ?_
            conv => whnf
            refine RegG.know 6 [⟨2, 5, 0, 3, true⟩, ⟨3, 6, 0, 3, false⟩] (by kernel_rfl) (by kernel_rfl) ?_
            conv => whnf
            refine ⟨rfl, ?_⟩
            conv => whnf
            refine ⟨rfl, ?_⟩
            conv => whnf
            refine ⟨.inr rfl, ?_⟩
            conv => whnf
            refine .ct ?_
            conv => whnf
            refine CallG.mk (check_Y _ _ _ _ hst.c1) rfl ?_
            conv => whnf
            refine RegG.bump8 1 (d0 := 46) (d1 := 47) (d2 := 48) (d3 := 49) (d4 := 50) (d5 := 51) (d6 := 52) (yv := .int .i64 (-1)) (u := .int .i64 (cnt n.s (ltS s))) (val := .int .i64 (cnt n.s (ltS s) + (-1))) (by kernel_rfl) rfl rfl rfl rfl rfl rfl rfl rfl rfl rfl rfl rfl rfl rfl rfl (by intro X; (conv => whnf); exact ⟨rfl, rfl⟩) (dn_key _ _ _) (add3 rfl (by have h1 := cnt_le n.s (ltS s); have h2 := hC.len; omega)) lt_law Try.underlying55 zero3 (plain3 (by decide)) (by simp [maxLen]; omega) (lt_key (x := (ltS s)) hst.wf) (hD.u hst.wf) (plain3 (by have h1 := cnt_le n.s (ltS s); have h2 := hC.len; omega)) ?_
            conv => whnf
            refine ⟨(_, _), ⟨hst.c1, hst.cnt hD⟩, [], ?_⟩
            refine ⟨?_, ?_, ?_⟩
            · skip
              refine leEnv_app (by kernel_rfl) (by kernel_rfl) ?_
              repeat ((conv => whnf); first | exact True.intro | refine ⟨.rfl, ?_⟩ | refine ⟨.any, ?_⟩ | refine ⟨.nil, ?_⟩ | refine ⟨.int (by first | rfl | omega | (simp only [wrs]; omega)), ?_⟩)
            · skip
              repeat (first | exact LeVs.nil | ((conv => whnf); first | exact True.intro | exact .none | exact .ext | exact .row rfl | refine .cells ?_ | refine ⟨_, _, rfl, .rfl, ?_⟩ | refine ⟨_, _, rfl, .any, ?_⟩ | refine ⟨_, _, rfl, .nil, ?_⟩ | refine ⟨_, _, rfl, .int (by first | rfl | omega | (simp only [wrs]; omega)), ?_⟩ | refine ⟨?_, ?_⟩))
              done
            · skip
              exact LeFr.same (by kernel_rfl)
          · skip
            conv => whnf
            refine .inl ?_
            conv => whnf
            refine InlG.mk (by kernel_rfl) Try.func25 rfl (Nat.le_of_ble_eq_true rfl) (XT.of tabX_ok ?_)
            conv => whnf
            refine .ct ?_
            conv => whnf
            refine CallG.mk (meantX_X true true true n x.a ho ha _ hs.symm) rfl ?_
            conv => whnf
            refine .ct ?_
            conv => whnf
            refine CallG.mk (of_X _ _ _ _) rfl ?_
            conv => whnf
            refine bF (decide_eq_false (by first | omega | (simp only [List.length_map]; omega))) ?_
            conv => whnf
            refine bF (decide_eq_false (by first | omega | (simp only [List.length_map]; omega))) ?_
            conv => whnf
            refine bF (decide_eq_false (by first | omega | (simp only [List.length_map]; omega))) ?_
            conv => whnf
            refine bF (decide_eq_false (by first | omega | (simp only [List.length_map]; omega))) ?_
            conv => whnf
            refine bF (decide_eq_false (by first | omega | (simp only [List.length_map]; omega))) ?_
            conv => whnf
            refine bT (decide_eq_true (by first | omega | (simp only [List.length_map]; omega))) ?_
            conv => whnf
            refine .ct ?_
            conv => whnf
            refine CallG.mk (lose_X true true true n x.a ho ha _ hm.symm) rfl ?_
            conv => whnf
            refine bF (decide_eq_false (by first | omega | (simp only [List.length_map]; omega))) ?_
            conv => whnf
            refine bT (by simp [he]; done) ?_
            conv => whnf
            refine ⟨.inr rfl, ?_⟩
            conv => whnf
            refine .ct ?_
            conv => whnf
            refine CallG.mk (check_Y _ _ _ _ hst.c1) rfl ?_
            conv => whnf
            refine RegG.bump8 1 (d0 := 46) (d1 := 47) (d2 := 48) (d3 := 49) (d4 := 50) (d5 := 51) (d6 := 52) (yv := .int .i64 0) (u := .int .i64 (cnt n.s l0)) (val := .int .i64 (cnt n.s l0 + 0)) (by kernel_rfl) rfl rfl rfl rfl rfl rfl rfl rfl rfl rfl rfl rfl rfl rfl rfl (by intro X; (conv => whnf); exact ⟨rfl, rfl⟩) (dn_key _ _ _) (add3 rfl (by have h1 := cnt_le n.s l0; have h2 := hC.len; omega)) lt_law Try.underlying55 zero3 (plain3 (by decide)) (by simp [maxLen]; omega) (lt_key (x := l0) hst.wf) (hD.u hst.wf) (plain3 (by have h1 := cnt_le n.s l0; have h2 := hC.len; omega)) ?_
            conv => whnf
            refine ⟨(_, _), ⟨hst.c1, hst.cnt hD⟩, [], ?_⟩
            refine ⟨?_, ?_, ?_⟩
            · skip
              refine leEnv_app (by kernel_rfl) (by kernel_rfl) ?_
              repeat ((conv => whnf); first | exact True.intro | refine ⟨.rfl, ?_⟩ | refine ⟨.any, ?_⟩ | refine ⟨.nil, ?_⟩ | refine ⟨.int (by first | rfl | omega | (simp only [wrs]; omega)), ?_⟩)
            · skip
              repeat (first | exact LeVs.nil | ((conv => whnf); first | exact True.intro | exact .none | exact .ext | exact .row rfl | refine .cells ?_ | refine ⟨_, _, rfl, .rfl, ?_⟩ | refine ⟨_, _, rfl, .any, ?_⟩ | refine ⟨_, _, rfl, .nil, ?_⟩ | refine ⟨_, _, rfl, .int (by first | rfl | omega | (simp only [wrs]; omega)), ?_⟩ | refine ⟨?_, ?_⟩))
              done
            · skip
              exact LeFr.same (by kernel_rfl)
          · skip
            conv => whnf
            refine .inl ?_
            conv => whnf
            refine InlG.mk (by kernel_rfl) Try.func25 rfl (Nat.le_of_ble_eq_true rfl) (XT.of tabX_ok ?_)
            conv => whnf
            refine .ct ?_
            conv => whnf
            refine CallG.mk (meantX_X true true true n x.a ho ha _ hs.symm) rfl ?_
            conv => whnf
            refine .ct ?_
            conv => whnf
            refine CallG.mk (of_Y _ s hb) rfl ?_
            conv => whnf
            refine bF (decide_eq_false (by first | omega | (simp only [List.length_map]; omega))) ?_
            conv => whnf
            refine bF (decide_eq_false (by first | omega | (simp only [List.length_map]; omega))) ?_
            conv => whnf
            refine bF (decide_eq_false (by first | omega | (simp only [List.length_map]; omega))) ?_
            conv => whnf
            refine bF (decide_eq_false (by first | omega | (simp only [List.length_map]; omega))) ?_
            conv => whnf
            refine bF (decide_eq_false (by first | omega | (simp only [List.length_map]; omega))) ?_
            conv => whnf
            refine bF (decide_eq_false (by first | omega | (simp only [List.length_map]; omega))) ?_
            conv => whnf
            refine bT (decide_eq_true (by first | omega | (simp only [List.length_map]; omega))) ?_
            conv => whnf
            refine .ct ?_
            conv => whnf
            refine CallG.mk (double_X true true true n x.a ho ha _ hm.symm) rfl ?_
            conv => whnf
            refine RegG.know 6 [⟨2, 5, 0, 3, true⟩, ⟨3, 6, 0, 3, false⟩] (by kernel_rfl) (by kernel_rfl) ?_
            conv => whnf
            refine ⟨rfl, ?_⟩
            conv => whnf
            refine ⟨rfl, ?_⟩
            conv => whnf
            refine ⟨.inr rfl, ?_⟩
            conv => whnf
            refine .ct ?_
            conv => whnf
            refine CallG.mk (check_Y _ _ _ _ hst.c1) rfl ?_
            conv => whnf
            refine RegG.bump8 1 (d0 := 46) (d1 := 47) (d2 := 48) (d3 := 49) (d4 := 50) (d5 := 51) (d6 := 52) (yv := .int .i64 1) (u := .int .i64 (cnt n.s (ltS s))) (val := .int .i64 (cnt n.s (ltS s) + 1)) (by kernel_rfl) rfl rfl rfl rfl rfl rfl rfl rfl rfl rfl rfl rfl rfl rfl rfl (by intro X; (conv => whnf); exact ⟨rfl, rfl⟩) (dn_key _ _ _) (add3 rfl (by have h1 := cnt_le n.s (ltS s); have h2 := hC.len; omega)) lt_law Try.underlying55 zero3 (plain3 (by decide)) (by simp [maxLen]; omega) (lt_key (x := (ltS s)) hst.wf) (hD.u hst.wf) (plain3 (by have h1 := cnt_le n.s (ltS s); have h2 := hC.len; omega)) ?_
            conv => whnf
            refine ⟨(_, _), ⟨hst.c1, hst.cnt hD⟩, [], ?_⟩
            refine ⟨?_, ?_, ?_⟩
            · skip
              refine leEnv_app (by kernel_rfl) (by kernel_rfl) ?_
              repeat ((conv => whnf); first | exact True.intro | refine ⟨.rfl, ?_⟩ | refine ⟨.any, ?_⟩ | refine ⟨.nil, ?_⟩ | refine ⟨.int (by first | rfl | omega | (simp only [wrs]; omega)), ?_⟩)
            · skip
              repeat (first | exact LeVs.nil | ((conv => whnf); first | exact True.intro | exact .none | exact .ext | exact .row rfl | refine .cells ?_ | refine ⟨_, _, rfl, .rfl, ?_⟩ | refine ⟨_, _, rfl, .any, ?_⟩ | refine ⟨_, _, rfl, .nil, ?_⟩ | refine ⟨_, _, rfl, .int (by first | rfl | omega | (simp only [wrs]; omega)), ?_⟩ | refine ⟨?_, ?_⟩))
              done
            · skip
              exact LeFr.same (by kernel_rfl)
          · skip
            conv => whnf
            refine .inl ?_
            conv => whnf
            refine InlG.mk (by kernel_rfl) Try.func25 rfl (Nat.le_of_ble_eq_true rfl) (XT.of tabX_ok ?_)
            conv => whnf
            refine .ct ?_
            conv => whnf
            refine CallG.mk (meantX_X true true true n x.a ho ha _ hs.symm) rfl ?_
            conv => whnf
            refine .ct ?_
            conv => whnf
            refine CallG.mk (of_X _ _ _ _) rfl ?_
            conv => whnf
            refine bF (decide_eq_false (by first | omega | (simp only [List.length_map]; omega))) ?_
            conv => whnf
            refine bF (decide_eq_false (by first | omega | (simp only [List.length_map]; omega))) ?_
            conv => whnf
            refine bF (decide_eq_false (by first | omega | (simp only [List.length_map]; omega))) ?_
            conv => whnf
            refine bF (decide_eq_false (by first | omega | (simp only [List.length_map]; omega))) ?_
            conv => whnf
            refine bF (decide_eq_false (by first | omega | (simp only [List.length_map]; omega))) ?_
            conv => whnf
            refine bF (decide_eq_false (by first | omega | (simp only [List.length_map]; omega))) ?_
            conv => whnf
            refine bT (decide_eq_true (by first | omega | (simp only [List.length_map]; omega))) ?_
            conv => whnf
            refine .ct ?_
            conv => whnf
            refine CallG.mk (double_X true true true n x.a ho ha _ hm.symm) rfl ?_
            conv => whnf
            refine bF (decide_eq_false (by first | omega | (simp only [List.length_map]; omega))) ?_
            conv => whnf
            refine bT (by simp [he]; done) ?_
            conv => whnf
            refine ⟨.inr rfl, ?_⟩
            conv => whnf
            refine .ct ?_
            conv => whnf
            refine CallG.mk (check_Y _ _ _ _ hst.c1) rfl ?_
            conv => whnf
            refine RegG.bump8 1 (d0 := 46) (d1 := 47) (d2 := 48) (d3 := 49) (d4 := 50) (d5 := 51) (d6 := 52) (yv := .int .i64 0) (u := .int .i64 (cnt n.s l0)) (val := .int .i64 (cnt n.s l0 + 0)) (by kernel_rfl) rfl rfl rfl rfl rfl rfl rfl rfl rfl rfl rfl rfl rfl rfl rfl (by intro X; (conv => whnf); exact ⟨rfl, rfl⟩) (dn_key _ _ _) (add3 rfl (by have h1 := cnt_le n.s l0; have h2 := hC.len; omega)) lt_law Try.underlying55 zero3 (plain3 (by decide)) (by simp [maxLen]; omega) (lt_key (x := l0) hst.wf) (hD.u hst.wf) (plain3 (by have h1 := cnt_le n.s l0; have h2 := hC.len; omega)) ?_
            conv => whnf
            refine ⟨(_, _), ⟨hst.c1, hst.cnt hD⟩, [], ?_⟩
            refine ⟨?_, ?_, ?_⟩
            · skip
              refine leEnv_app (by kernel_rfl) (by kernel_rfl) ?_
              repeat ((conv => whnf); first | exact True.intro | refine ⟨.rfl, ?_⟩ | refine ⟨.any, ?_⟩ | refine ⟨.nil, ?_⟩ | refine ⟨.int (by first | rfl | omega | (simp only [wrs]; omega)), ?_⟩)
            · skip
              repeat (first | exact LeVs.nil | ((conv => whnf); first | exact True.intro | exact .none | exact .ext | exact .row rfl | refine .cells ?_ | refine ⟨_, _, rfl, .rfl, ?_⟩ | refine ⟨_, _, rfl, .any, ?_⟩ | refine ⟨_, _, rfl, .nil, ?_⟩ | refine ⟨_, _, rfl, .int (by first | rfl | omega | (simp only [wrs]; omega)), ?_⟩ | refine ⟨?_, ?_⟩))
              done
            · skip
              exact LeFr.same (by kernel_rfl)
          · skip
            conv => whnf
            refine .inl ?_
            conv => whnf
            refine InlG.mk (by kernel_rfl) Try.func25 rfl (Nat.le_of_ble_eq_true rfl) (XT.of tabX_ok ?_)
            conv => whnf
            refine .ct ?_
            conv => whnf
            refine CallG.mk (meantX_X true true true n x.a ho ha _ hs.symm) rfl ?_
            conv => whnf
            refine .ct ?_
            conv => whnf
            refine CallG.mk (of_X _ _ _ _) rfl ?_
            conv => whnf
            refine bF (decide_eq_false (by first | omega | (simp only [List.length_map]; omega))) ?_
            conv => whnf
            refine bF (decide_eq_false (by first | omega | (simp only [List.length_map]; omega))) ?_
            conv => whnf
            refine bF (decide_eq_false (by first | omega | (simp only [List.length_map]; omega))) ?_
            conv => whnf
            refine bF (decide_eq_false (by first | omega | (simp only [List.length_map]; omega))) ?_
            conv => whnf
            refine bF (decide_eq_false (by first | omega | (simp only [List.length_map]; omega))) ?_
            conv => whnf
            refine bF (decide_eq_false (by first | omega | (simp only [List.length_map]; omega))) ?_
            conv => whnf
            refine bF (decide_eq_false (by first | omega | (simp only [List.length_map]; omega))) ?_
            conv => whnf
            refine bT (decide_eq_true (by first | omega | (simp only [List.length_map]; omega))) ?_
            conv => whnf
            refine .ct ?_
            conv => whnf
            refine CallG.mk (part_X true true true n x.a x.b ho _ hm.symm) rfl ?_
            conv => whnf
            refine ⟨.inr rfl, ?_⟩
            conv => whnf
            refine .ct ?_
            conv => whnf
            refine CallG.mk (check_Y _ _ _ _ hst.c1) rfl ?_
            conv => whnf
            refine RegG.bump8 1 (d0 := 46) (d1 := 47) (d2 := 48) (d3 := 49) (d4 := 50) (d5 := 51) (d6 := 52) (yv := .int .i64 0) (u := .int .i64 (cnt n.s l0)) (val := .int .i64 (cnt n.s l0 + 0)) (by kernel_rfl) rfl rfl rfl rfl rfl rfl rfl rfl rfl rfl rfl rfl rfl rfl rfl (by intro X; (conv => whnf); exact ⟨rfl, rfl⟩) (dn_key _ _ _) (add3 rfl (by have h1 := cnt_le n.s l0; have h2 := hC.len; omega)) lt_law Try.underlying55 zero3 (plain3 (by decide)) (by simp [maxLen]; omega) (lt_key (x := l0) hst.wf) (hD.u hst.wf) (plain3 (by have h1 := cnt_le n.s l0; have h2 := hC.len; omega)) ?_
            conv => whnf
            refine ⟨(_, _), ⟨hst.c1, hst.cnt hD⟩, [], ?_⟩
            refine ⟨?_, ?_, ?_⟩
            · skip
              refine leEnv_app (by kernel_rfl) (by kernel_rfl) ?_
              repeat ((conv => whnf); first | exact True.intro | refine ⟨.rfl, ?_⟩ | refine ⟨.any, ?_⟩ | refine ⟨.nil, ?_⟩ | refine ⟨.int (by first | rfl | omega | (simp only [wrs]; omega)), ?_⟩)
            · skip
              repeat (first | exact LeVs.nil | ((conv => whnf); first | exact True.intro | exact .none | exact .ext | exact .row rfl | refine .cells ?_ | refine ⟨_, _, rfl, .rfl, ?_⟩ | refine ⟨_, _, rfl, .any, ?_⟩ | refine ⟨_, _, rfl, .nil, ?_⟩ | refine ⟨_, _, rfl, .int (by first | rfl | omega | (simp only [wrs]; omega)), ?_⟩ | refine ⟨?_, ?_⟩))
              done
            · skip
              exact LeFr.same (by kernel_rfl)
          · skip
            conv => whnf
            refine .inl ?_
            conv => whnf
            refine InlG.mk (by kernel_rfl) Try.func25 rfl (Nat.le_of_ble_eq_true rfl) (XT.of tabX_ok ?_)
            conv => whnf
            refine .ct ?_
            conv => whnf
            refine CallG.mk (meantX_X true true true n x.a ho ha _ hs.symm) rfl ?_
            conv => whnf
            refine .ct ?_
            conv => whnf
            refine CallG.mk (of_X _ _ _ _) rfl ?_
            conv => whnf
            refine bF (decide_eq_false (by first | omega | (simp only [List.length_map]; omega))) ?_
            conv => whnf
            refine bF (decide_eq_false (by first | omega | (simp only [List.length_map]; omega))) ?_
            conv => whnf
            refine bF (decide_eq_false (by first | omega | (simp only [List.length_map]; omega))) ?_
            conv => whnf
            refine bF (decide_eq_false (by first | omega | (simp only [List.length_map]; omega))) ?_
            conv => whnf
            refine bF (decide_eq_false (by first | omega | (simp only [List.length_map]; omega))) ?_
            conv => whnf
            refine bF (decide_eq_false (by first | omega | (simp only [List.length_map]; omega))) ?_
            conv => whnf
            refine bF (decide_eq_false (by first | omega | (simp only [List.length_map]; omega))) ?_
            conv => whnf
            refine bT (decide_eq_true (by first | omega | (simp only [List.length_map]; omega))) ?_
            conv => whnf
            refine .ct ?_
            conv => whnf
            refine CallG.mk (part_X true true true n x.a x.b ho _ hm.symm) rfl ?_
            conv => whnf
            refine bT (by simp [he]; done) ?_
            conv => whnf
            refine ⟨.inr rfl, ?_⟩
            conv => whnf
            refine .ct ?_
            conv => whnf
            refine CallG.mk (check_Y _ _ _ _ hst.c1) rfl ?_
            conv => whnf
            refine RegG.bump8 1 (d0 := 46) (d1 := 47) (d2 := 48) (d3 := 49) (d4 := 50) (d5 := 51) (d6 := 52) (yv := .int .i64 0) (u := .int .i64 (cnt n.s l0)) (val := .int .i64 (cnt n.s l0 + 0)) (by kernel_rfl) rfl rfl rfl rfl rfl rfl rfl rfl rfl rfl rfl rfl rfl rfl rfl (by intro X; (conv => whnf); exact ⟨rfl, rfl⟩) (dn_key _ _ _) (add3 rfl (by have h1 := cnt_le n.s l0; have h2 := hC.len; omega)) lt_law Try.underlying55 zero3 (plain3 (by decide)) (by simp [maxLen]; omega) (lt_key (x := l0) hst.wf) (hD.u hst.wf) (plain3 (by have h1 := cnt_le n.s l0; have h2 := hC.len; omega)) ?_
            conv => whnf
            refine ⟨(_, _), ⟨hst.c1, hst.cnt hD⟩, [], ?_⟩
            refine ⟨?_, ?_, ?_⟩
            · skip
              refine leEnv_app (by kernel_rfl) (by kernel_rfl) ?_
              repeat ((conv => whnf); first | exact True.intro | refine ⟨.rfl, ?_⟩ | refine ⟨.any, ?_⟩ | refine ⟨.nil, ?_⟩ | refine ⟨.int (by first | rfl | omega | (simp only [wrs]; omega)), ?_⟩)
            · skip
              repeat (first | exact LeVs.nil | ((conv => whnf); first | exact True.intro | exact .none | exact .ext | exact .row rfl | refine .cells ?_ | refine ⟨_, _, rfl, .rfl, ?_⟩ | refine ⟨_, _, rfl, .any, ?_⟩ | refine ⟨_, _, rfl, .nil, ?_⟩ | refine ⟨_, _, rfl, .int (by first | rfl | omega | (simp only [wrs]; omega)), ?_⟩ | refine ⟨?_, ?_⟩))
              done
            · skip
              exact LeFr.same (by kernel_rfl)
          · skip
            conv => whnf
            refine .inl ?_
            conv => whnf
            refine InlG.mk (by kernel_rfl) Try.func25 rfl (Nat.le_of_ble_eq_true rfl) (XT.of tabX_ok ?_)
            conv => whnf
            refine .ct ?_
            conv => whnf
            refine CallG.mk (meantX_X true true true n x.a ho ha _ hs.symm) rfl ?_
            conv => whnf
            refine .ct ?_
            conv => whnf
            refine CallG.mk (of_X _ _ _ _) rfl ?_
            conv => whnf
            refine bF (decide_eq_false (by first | omega | (simp only [List.length_map]; omega))) ?_
            conv => whnf
            refine bF (decide_eq_false (by first | omega | (simp only [List.length_map]; omega))) ?_
            conv => whnf
            refine bF (decide_eq_false (by first | omega | (simp only [List.length_map]; omega))) ?_
            conv => whnf
            refine bF (decide_eq_false (by first | omega | (simp only [List.length_map]; omega))) ?_
            conv => whnf
            refine bF (decide_eq_false (by first | omega | (simp only [List.length_map]; omega))) ?_
            conv => whnf
            refine bF (decide_eq_false (by first | omega | (simp only [List.length_map]; omega))) ?_
            conv => whnf
            refine bF (decide_eq_false (by first | omega | (simp only [List.length_map]; omega))) ?_
            conv => whnf
            refine bF (decide_eq_false (by first | omega | (simp only [List.length_map]; omega))) ?_
            conv => whnf
            refine .ct ?_
            conv => whnf
            refine CallG.mk (mend_X true true true n x.a x.b ho _ hm.symm) rfl ?_
            conv => whnf
            refine ⟨.inr rfl, ?_⟩
            conv => whnf
            refine .ct ?_
            conv => whnf
            refine CallG.mk (check_Y _ _ _ _ hst.c1) rfl ?_
            conv => whnf
            refine RegG.bump8 1 (d0 := 46) (d1 := 47) (d2 := 48) (d3 := 49) (d4 := 50) (d5 := 51) (d6 := 52) (yv := .int .i64 0) (u := .int .i64 (cnt n.s l0)) (val := .int .i64 (cnt n.s l0 + 0)) (by kernel_rfl) rfl rfl rfl rfl rfl rfl rfl rfl rfl rfl rfl rfl rfl rfl rfl (by intro X; (conv => whnf); exact ⟨rfl, rfl⟩) (dn_key _ _ _) (add3 rfl (by have h1 := cnt_le n.s l0; have h2 := hC.len; omega)) lt_law Try.underlying55 zero3 (plain3 (by decide)) (by simp [maxLen]; omega) (lt_key (x := l0) hst.wf) (hD.u hst.wf) (plain3 (by have h1 := cnt_le n.s l0; have h2 := hC.len; omega)) ?_
            conv => whnf
            refine ⟨(_, _), ⟨hst.c1, hst.cnt hD⟩, [], ?_⟩
            refine ⟨?_, ?_, ?_⟩
            · skip
              refine leEnv_app (by kernel_rfl) (by kernel_rfl) ?_
              repeat ((conv => whnf); first | exact True.intro | refine ⟨.rfl, ?_⟩ | refine ⟨.any, ?_⟩ | refine ⟨.nil, ?_⟩ | refine ⟨.int (by first | rfl | omega | (simp only [wrs]; omega)), ?_⟩)
            · skip
              repeat (first | exact LeVs.nil | ((conv => whnf); first | exact True.intro | exact .none | exact .ext | exact .row rfl | refine .cells ?_ | refine ⟨_, _, rfl, .rfl, ?_⟩ | refine ⟨_, _, rfl, .any, ?_⟩ | refine ⟨_, _, rfl, .nil, ?_⟩ | refine ⟨_, _, rfl, .int (by first | rfl | omega | (simp only [wrs]; omega)), ?_⟩ | refine ⟨?_, ?_⟩))
              done
            · skip
              exact LeFr.same (by kernel_rfl)
          · skip
            conv => whnf
            refine .inl ?_
            conv => whnf
            refine InlG.mk (by kernel_rfl) Try.func25 rfl (Nat.le_of_ble_eq_true rfl) (XT.of tabX_ok ?_)
            conv => whnf
            refine .ct ?_
            conv => whnf
            refine CallG.mk (meantX_X true true true n x.a ho ha _ hs.symm) rfl ?_
            conv => whnf
            refine .ct ?_
            conv => whnf
            refine CallG.mk (of_X _ _ _ _) rfl ?_
            conv => whnf
            refine bF (decide_eq_false (by first | omega | (simp only [List.length_map]; omega))) ?_
            conv => whnf
            refine bF (decide_eq_false (by first | omega | (simp only [List.length_map]; omega))) ?_
            conv => whnf
            refine bF (decide_eq_false (by first | omega | (simp only [List.length_map]; omega))) ?_
            conv => whnf
            refine bF (decide_eq_false (by first | omega | (simp only [List.length_map]; omega))) ?_
            conv => whnf
            refine bF (decide_eq_false (by first | omega | (simp only [List.length_map]; omega))) ?_
            conv => whnf
            refine bF (decide_eq_false (by first | omega | (simp only [List.length_map]; omega))) ?_
            conv => whnf
            refine bF (decide_eq_false (by first | omega | (simp only [List.length_map]; omega))) ?_
            conv => whnf
            refine bF (decide_eq_false (by first | omega | (simp only [List.length_map]; omega))) ?_
            conv => whnf
            refine .ct ?_
            conv => whnf
            refine CallG.mk (mend_X true true true n x.a x.b ho _ hm.symm) rfl ?_
            conv => whnf
            refine bT (by simp [he]; done) ?_
            conv => whnf
            refine ⟨.inr rfl, ?_⟩
            conv => whnf
            refine .ct ?_
            conv => whnf
            refine CallG.mk (check_Y _ _ _ _ hst.c1) rfl ?_
            conv => whnf
            refine RegG.bump8 1 (d0 := 46) (d1 := 47) (d2 := 48) (d3 := 49) (d4 := 50) (d5 := 51) (d6 := 52) (yv := .int .i64 0) (u := .int .i64 (cnt n.s l0)) (val := .int .i64 (cnt n.s l0 + 0)) (by kernel_rfl) rfl rfl rfl rfl rfl rfl rfl rfl rfl rfl rfl rfl rfl rfl rfl (by intro X; (conv => whnf); exact ⟨rfl, rfl⟩) (dn_key _ _ _) (add3 rfl (by have h1 := cnt_le n.s l0; have h2 := hC.len; omega)) lt_law Try.underlying55 zero3 (plain3 (by decide)) (by simp [maxLen]; omega) (lt_key (x := l0) hst.wf) (hD.u hst.wf) (plain3 (by have h1 := cnt_le n.s l0; have h2 := hC.len; omega)) ?_
            conv => whnf
            refine ⟨(_, _), ⟨hst.c1, hst.cnt hD⟩, [], ?_⟩
            refine ⟨?_, ?_, ?_⟩
            · skip
              refine leEnv_app (by kernel_rfl) (by kernel_rfl) ?_
              repeat ((conv => whnf); first | exact True.intro | refine ⟨.rfl, ?_⟩ | refine ⟨.any, ?_⟩ | refine ⟨.nil, ?_⟩ | refine ⟨.int (by first | rfl | omega | (simp only [wrs]; omega)), ?_⟩)
            · skip
              repeat (first | exact LeVs.nil | ((conv => whnf); first | exact True.intro | exact .none | exact .ext | exact .row rfl | refine .cells ?_ | refine ⟨_, _, rfl, .rfl, ?_⟩ | refine ⟨_, _, rfl, .any, ?_⟩ | refine ⟨_, _, rfl, .nil, ?_⟩ | refine ⟨_, _, rfl, .int (by first | rfl | omega | (simp only [wrs]; omega)), ?_⟩ | refine ⟨?_, ?_⟩))
              done
            · skip
              exact LeFr.same (by kernel_rfl)
        · skip
          rintro ⟨m, D2⟩ ⟨hm, hD2⟩
          have hml := hm.len
          conv => whnf
          refine MapTG.mk Try.underlying55 ?_
          conv => whnf
          refine XT.loop tabX_ok (Y := Nat × DataW Unit) [2, 11, 13, 14, 15, 53, 57, 58, 59, 60, 61, 62, 63, 64, 65, 66, 67, 68, 69, 70, 71, 72, 73, 74, 75] (fun (k, D3) => [(57, .p (.v (.int .i64 ((k : Int)))) (nlv _)), (11, .row 3)]) (fun (k, D3) => [(3, .ext (mapX Try.prog 59 3 k D3))]) (fun (k, D3) => k ≤ m.s.length ∧ CntD D3 (cnt (m.s.take k))) (fun (k, D3) => m.s.length - k) (0, .map []) ⟨by omega, cntD_0.of (fun x => rfl)⟩ ?_ ?_
          · skip
            refine ⟨?_, ?_, ?_⟩
            · skip
              refine leEnv_app (by kernel_rfl) (by kernel_rfl) ?_
              repeat ((conv => whnf); first | exact True.intro | refine ⟨.rfl, ?_⟩ | refine ⟨.any, ?_⟩ | refine ⟨.nil, ?_⟩ | refine ⟨.int (by first | rfl | omega | (simp only [wrs]; omega)), ?_⟩)
            · skip
              repeat (first | exact LeVs.nil | ((conv => whnf); first | exact True.intro | exact .none | exact .ext | exact .row rfl | refine .cells ?_ | refine ⟨_, _, rfl, .rfl, ?_⟩ | refine ⟨_, _, rfl, .any, ?_⟩ | refine ⟨_, _, rfl, .nil, ?_⟩ | refine ⟨_, _, rfl, .int (by first | rfl | omega | (simp only [wrs]; omega)), ?_⟩ | refine ⟨?_, ?_⟩))
              done
            · skip
              exact LeFr.same (by kernel_rfl)
          · skip
            rintro ⟨k, D3⟩ ⟨hk, hL⟩
            conv => whnf
            refine bS (fun hc11 => ?_) (fun hc11 => ?_)
            · skip
              try simp only [bls] at hc11
              conv => whnf
              refine IdxG.map (l := m.s) _ rfl (by first | omega | (simp only [List.length_map] at *; omega)) ?_; intro y1 hy1 hny1
              conv => whnf
              refine ⟨rfl, ?_⟩
              conv => whnf
              refine .ct ?_
              conv => whnf
              refine CallG.mk (of_Y _ y1 (hm.b y1 (List.mem_of_getElem? hy1))) rfl ?_
              conv => whnf
              have hwy := hm.wf (List.mem_of_getElem? hy1)
              have hcy := cnt_tk m.s k (ltS y1)
              have hly := hm.len
              refine RegG.bump7 3 (d0 := 69) (d1 := 70) (d2 := 71) (d3 := 72) (d4 := 73) (d5 := 74) (yv := .int .i64 1) (u := .int .i64 (cnt (m.s.take k) (ltS y1))) (val := .int .i64 (cnt (m.s.take k) (ltS y1) + 1)) (by kernel_rfl) rfl rfl rfl rfl rfl rfl rfl rfl rfl rfl rfl rfl rfl rfl (by intro X; (conv => whnf); exact ⟨rfl, rfl⟩) (dn_key _ _ _) (add3 rfl (by omega)) lt_law Try.underlying55 zero3 (plain3 (by decide)) (by simp [maxLen]; omega) (lt_key (x := (ltS y1)) hwy) (hL.u hwy) (plain3 (by omega)) ?_
              conv => whnf
              refine ⟨(k + 1, _), ⟨by omega, hL.step hy1 hwy⟩, (by show m.s.length - (k + 1) < m.s.length - k; omega), ?_⟩
              refine ⟨?_, ?_, ?_⟩
              · skip
                refine leEnv_app (by kernel_rfl) (by kernel_rfl) ?_
                repeat ((conv => whnf); first | exact True.intro | refine ⟨.rfl, ?_⟩ | refine ⟨.any, ?_⟩ | refine ⟨.nil, ?_⟩ | refine ⟨.int (by first | rfl | omega | (simp only [wrs]; omega)), ?_⟩)
              · skip
                repeat (first | exact LeVs.nil | ((conv => whnf); first | exact True.intro | exact .none | exact .ext | exact .row rfl | refine .cells ?_ | refine ⟨_, _, rfl, .rfl, ?_⟩ | refine ⟨_, _, rfl, .any, ?_⟩ | refine ⟨_, _, rfl, .nil, ?_⟩ | refine ⟨_, _, rfl, .int (by first | rfl | omega | (simp only [wrs]; omega)), ?_⟩ | refine ⟨?_, ?_⟩))
                done
              · skip
                exact LeFr.same (by kernel_rfl)
            · skip
              try simp only [bls] at hc11
              have hA := cnt_all hL (by omega)
              conv => whnf
              refine XT.rangeM tabX_ok 1 rfl rfl rfl rfl rfl ?_
              conv => whnf
              refine ⟨1, _, _, _, _, rfl, rfl, Try.underlying55, ?_⟩
              intro mg mes mclk mr mF mS mD
              have mO := fit_old mF
              conv => whnf
              refine XT.loop tabX_ok (Y := Array Nat × Nat) [2, 16, 17, 78, 79, 80, 81, 82, 83, 84, 85, 86, 87] (fun (sn, c0) => []) (fun (sn, c0) => [(4, .ext (iterX mr mg mclk sn c0))]) (fun (sn, c0) => mclk ≤ c0) (fun (sn, c0) => (_root_.Go.leftOf mes sn).size) (#[], mclk) (by show mclk ≤ mclk; omega) ?_ ?_
              · skip
                refine ⟨?_, ?_, ?_⟩
                · skip
                  refine leEnv_app (by kernel_rfl) (by kernel_rfl) ?_
                  repeat ((conv => whnf); first | exact True.intro | refine ⟨.rfl, ?_⟩ | refine ⟨.any, ?_⟩ | refine ⟨.nil, ?_⟩ | refine ⟨.int (by first | rfl | omega | (simp only [wrs]; omega)), ?_⟩)
                · skip
                  repeat (first | exact LeVs.nil | ((conv => whnf); first | exact True.intro | exact .none | exact .ext | exact .row rfl | refine .cells ?_ | refine ⟨_, _, rfl, .rfl, ?_⟩ | refine ⟨_, _, rfl, .any, ?_⟩ | refine ⟨_, _, rfl, .nil, ?_⟩ | refine ⟨_, _, rfl, .int (by first | rfl | omega | (simp only [wrs]; omega)), ?_⟩ | refine ⟨?_, ?_⟩))
                  done
                · skip
                  exact LeFr.same (by kernel_rfl)
              · skip
                rintro ⟨sn, c0⟩ hc0
                conv => whnf
                refine XT.nextM tabX_ok 1 4 rfl rfl rfl rfl rfl rfl rfl rfl mO.1 hc0 ?_ ?_
                · skip
                  intro hl0
                  conv => whnf
                  refine ⟨rfl, ?_⟩
                  conv => whnf
                  refine ⟨(i + 1, m, D2), ⟨by omega, hm, hD2⟩, (by show 101 - (i + 1) < 101 - i; omega), ?_⟩
                  refine ⟨?_, ?_, ?_⟩
                  · skip
                    refine leEnv_app (by kernel_rfl) (by kernel_rfl) ?_
                    repeat ((conv => whnf); first | exact True.intro | refine ⟨.rfl, ?_⟩ | refine ⟨.any, ?_⟩ | refine ⟨.nil, ?_⟩ | refine ⟨.int (by first | rfl | omega | (simp only [wrs]; omega)), ?_⟩)
                  · skip
                    repeat (first | exact LeVs.nil | ((conv => whnf); first | exact True.intro | exact .none | exact .ext | exact .row rfl | refine .cells ?_ | refine ⟨_, _, rfl, .rfl, ?_⟩ | refine ⟨_, _, rfl, .any, ?_⟩ | refine ⟨_, _, rfl, .nil, ?_⟩ | refine ⟨_, _, rfl, .int (by first | rfl | omega | (simp only [wrs]; omega)), ?_⟩ | refine ⟨?_, ?_⟩))
                    done
                  · skip
                    exact LeFr.same (by kernel_rfl)
                · skip
                  rintro ⟨xk, xv, xb⟩ hxe
                  have hxm := (_root_.Go.mem_left hxe).1
                  obtain ⟨y2, hy2, hyk, hyv⟩ := hD2.ent w0 mF mD hxm
                  simp only at hyk hyv
                  subst hyk hyv
                  conv => whnf
                  refine XT.entM tabX_ok 1 4 (x := ⟨y2.v, .int .i64 (cnt m.s y2), xb⟩) rfl rfl rfl rfl rfl rfl rfl rfl hxm mO.2 (.ag [.p (.v (.int .i64 (y2.f))) (nlv _), .p (.v (.int .i64 (y2.t))) (nlv _), .p (.v (.int .u8 (y2.b))) (nlv _)]) (key_dn y2) ?_
                  conv => whnf
                  refine LookG.mk rfl (dn_key _ _ _) lt_keyed Try.underlying55 zero3 (plain3 (by decide)) (lt_key (x := y2) hy2) (hA.u hy2) ?_
                  conv => whnf
                  refine bF (by simp; done) ?_
                  conv => whnf
                  refine ⟨(sn.push xb, mclk), (by show mclk ≤ mclk; omega), (by show (_root_.Go.leftOf mes (sn.push xb)).size < (_root_.Go.leftOf mes sn).size; exact _root_.Go.left_shrinks _ _ _ hxe), ?_⟩
                  refine ⟨?_, ?_, ?_⟩
                  · skip
                    refine leEnv_app (by kernel_rfl) (by kernel_rfl) ?_
                    repeat ((conv => whnf); first | exact True.intro | refine ⟨.rfl, ?_⟩ | refine ⟨.any, ?_⟩ | refine ⟨.nil, ?_⟩ | refine ⟨.int (by first | rfl | omega | (simp only [wrs]; omega)), ?_⟩)
                  · skip
                    repeat (first | exact LeVs.nil | ((conv => whnf); first | exact True.intro | exact .none | exact .ext | exact .row rfl | refine .cells ?_ | refine ⟨_, _, rfl, .rfl, ?_⟩ | refine ⟨_, _, rfl, .any, ?_⟩ | refine ⟨_, _, rfl, .nil, ?_⟩ | refine ⟨_, _, rfl, .int (by first | rfl | omega | (simp only [wrs]; omega)), ?_⟩ | refine ⟨?_, ?_⟩))
                    done
                  · skip
                    exact LeFr.same (by kernel_rfl)
    · skip
      try simp only [bls] at hc1
      conv => whnf
      refine FinG.mk none ?_ (by rintro _ ⟨⟩)
      simp only [outs, List.length_map, List.length_append, List.length_take, List.length_drop, List.length_cons, List.length_nil, slC, dfC, netX, net0, List.map_nil, mix_len, pkX, slX, sl0, delS]
end Go.Proofs.Ytmhmldpccccjbaa

namespace Go.Proofs.Ytmhmldpccccjbaa
open Go.RowKit
set_option linter.unusedVariables false
set_option linter.unusedSimpArgs false

abbrev shAc : List Sh := [.int .i64, .int .i64, .int .i64, .int .u8]
theorem open_ac {els : List (List TV)} (h : ∀ c ∈ els, ShL shAc c) : ∃ l : List AcA, els = l.map acC ∧ l.length = els.length ∧ ∀ x ∈ l, x.In := image_of fun c hc => by
  obtain ⟨x, y, z, u, rfl, h1, h2, h3, h4⟩ := shL4 (h c hc)
  obtain ⟨k, rfl, h5⟩ := sh_int h1
  obtain ⟨a, rfl, h6⟩ := sh_int h2
  obtain ⟨b, rfl, h7⟩ := sh_int h3
  obtain ⟨v, rfl, h8⟩ := sh_int h4
  have h9 := i64_I h6
  unfold I64 at h9
  simp [Lit.wf, IntKind.min, IntKind.max, IntKind.signed, IntKind.bits] at h8
  exact ⟨⟨k, a, b, v⟩, rfl, h9.2, by show 0 ≤ v ∧ v < 256; omega⟩
end Go.Proofs.Ytmhmldpccccjbaa
