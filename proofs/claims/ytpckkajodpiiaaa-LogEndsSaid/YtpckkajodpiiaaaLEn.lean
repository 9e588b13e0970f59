/- What a log is extended by, cut, given up at its beginning: the walk. No condition. -/
import Derived.Test.YtpckkajodpiiaaaLR
import Derived.Test.YtpckkajodpiiaaaLS
import Derived.Test.YtpckkajodpiiaaaTEA
namespace Go.Proofs.Ytpckkajodpiiaaa
open Go.RowKit
set_option linter.unusedVariables false
set_option linter.unusedSimpArgs false
set_option maxRecDepth 20000
theorem wakes_X : XMeets Try.prog 10 [] (.p (.v (.bool true)) (nlv _)) := ⟨by kernel_rfl, wakes_T⟩
theorem own_X (b b' : Bool) (i t : Int) (es : List Ent) (hn : es.length ≤ 9223372036854775807) {F : List Ent} (hF : fewL es = F) : XMeets Try.prog 11 [logT i t (.sl b (es.map (entC b')))] (.ag [.p (.v (.int .u64 i)) (nlv _), .p (.v (.int .u64 t)) (nlv _), .p (.sl true (F.map (entC true))) (nl_ents _ _).sl]) := by
  subst hF
  exact .of_shr (by kernel_rfl) (own_T b b' i t es hn) ⟨trivial, trivial, fr_ents _, trivial⟩ rfl
theorem fewX (b b' : Bool) (es : List Ent) (hn : es.length ≤ 9223372036854775807) {F : List Ent} (hF : fewL es = F) : XMeets Try.prog 12 [.sl b (es.map (entC b'))] (.p (.sl true (F.map (entC true))) (nl_ents _ _).sl) := by
  subst hF
  exact .of_shr (by kernel_rfl) (few_T b b' es hn) (fr_ents _) rfl
theorem right_X (b b' : Bool) (i t : Int) (es : List Ent) (h : okE es) (hi0 : 0 ≤ i) (hi1 : i < 18446744073709551616) (ht0 : 0 ≤ t) : XMeets Try.prog 19 [logT i t (.sl b (es.map (entC b')))] (.p (.v (.bool (mayB i t es))) (nlv _)) := ⟨by kernel_rfl, right_T b b' i t es h.w h.n9 hi0 hi1 ht0⟩
theorem extend_X (b b' : Bool) (i t : Int) (es : List Ent) (h : okE es) (hi0 : 0 ≤ i) (hi1 : i < 18446744073709551616) (b2 b2' : Bool) (more : List Ent) (h2 : okE more) : XMeets Try.prog 13 [logT i t (.sl b (es.map (entC b'))), .sl b2 (more.map (entC b2'))] (.tu [lgX (xtE i t es more) i t (es ++ more), atX (endN (xtE i t es more) i t (es ++ more)), .p (.v (.int .i64 (xtE i t es more))) (nlv _)]) := by
  obtain ⟨e1, e2⟩ := shr_lgE (xtE i t es more) i t (es ++ more)
  exact .of_shr (by kernel_rfl) (extend_T b b' i t es h hi0 hi1 b2 b2' more h2) ⟨e2, ⟨trivial, trivial, trivial⟩, trivial, trivial⟩ (by simp only [shr, shrL, e1]; rfl)
theorem append_X (b b' : Bool) (i t : Int) (es : List Ent) (h : okE es) (hi0 : 0 ≤ i) (hi1 : i < 18446744073709551616) (c : Bool) (e : Ent) (h2 : okE [e]) : XMeets Try.prog 23 [logT i t (.sl b (es.map (entC b'))), .agg (entC c e)] (.tu [lgX (xtE i t es [e]) i t (es ++ [e]), atX (endN (xtE i t es [e]) i t (es ++ [e])), .p (.v (.int .i64 (xtE i t es [e]))) (nlv _)]) := by
  obtain ⟨e1, e2⟩ := shr_lgE (xtE i t es [e]) i t (es ++ [e])
  exact .of_shr (by kernel_rfl) (append_T b b' i t es h hi0 hi1 c e h2) ⟨e2, ⟨trivial, trivial, trivial⟩, trivial, trivial⟩ (by simp only [shr, shrL, e1]; rfl)
theorem cut_X (b b' : Bool) (i t : Int) (es : List Ent) (h : okE es) (hi0 : 0 ≤ i) (hi1 : i < 18446744073709551616) (x : Int) (hx0 : 0 ≤ x) (hx1 : x < 18446744073709551616) : XMeets Try.prog 14 [logT i t (.sl b (es.map (entC b'))), .v (.int .u64 x)] (.tu [lgX (aheadN i t es x).2 i t (cutL i t es x), .p (.v (.int .i64 (aheadN i t es x).2)) (nlv _)]) := by
  obtain ⟨e1, e2⟩ := shr_lgE (aheadN i t es x).2 i t (cutL i t es x)
  exact .of_shr (by kernel_rfl) (cut_T b b' i t es h hi0 hi1 x hx0 hx1) ⟨e2, trivial, trivial⟩ (by simp only [shr, shrL, e1]; rfl)
def cmI (i t : Int) (es : List Ent) (x : Int) : Int × Int := spotN i t es (ofN i x es.length).toNat
def cmL (i : Int) (es : List Ent) (x : Int) : List Ent := es.drop (ofN i x es.length).toNat
theorem comp_X (b b' : Bool) (i t : Int) (es : List Ent) (h : okE es) (hi0 : 0 ≤ i) (hi1 : i < 18446744073709551616) (x : Int) (hx0 : 0 ≤ x) (hx1 : x < 18446744073709551616) : XMeets Try.prog 15 [logT i t (.sl b (es.map (entC b'))), .v (.int .u64 x)] (.tu [lgX (compE i t es x) (cmI i t es x).1 (cmI i t es x).2 (cmL i es x), .p (.v (.int .i64 (compE i t es x))) (nlv _)]) := by
  obtain ⟨e1, e2⟩ := shr_lgE (compE i t es x) (cmI i t es x).1 (cmI i t es x).2 (cmL i es x)
  exact .of_shr (by kernel_rfl) (comp_T b b' i t es h hi0 hi1 x hx0 hx1) ⟨e2, trivial, trivial⟩ (by simp only [shr, shrL]; exact congrArg (fun z => TV.tup [z, _]) e1)
theorem num6_ofN {i x : Int} {N : Nat} (h0 : 0 ≤ i) (hr : roomB i N = true) : num6 i x N = ofN i x N := by
  simp only [roomB, Bool.and_eq_true, decide_eq_true_eq] at hr
  rcases ofN_cases i x N with ⟨k, h1, h2, h3, h4⟩ | ⟨h1, h2⟩
  · rw [h2]
    exact num6_at h1 h3 fun j hj e => by omega
  · rw [h1]
    exact num6_no h2
theorem may_room6 {i t : Int} {es : List Ent} (h : mayB i t es = true) : roomB i es.length = true := by
  simp only [mayB, Bool.and_eq_true] at h; exact h.1.2
theorem ahead_cut {i t : Int} {es : List Ent} {x : Int} (h0 : 0 ≤ i) (hx : 0 ≤ x) (h : mayB i t es = true) : (aheadN i t es x).2 = cut6E i es x := by
  have hn := num6_ofN (x := x - 1) h0 (may_room6 h)
  unfold aheadN cut6E
  rw [if_pos h, hn]
  by_cases h1 : x = 0 ∨ ofN i (x - 1) es.length < 0
  · rw [if_neg (by omega), if_pos h1]
  · rw [if_pos (by omega), if_neg h1]
theorem cutL_6 {i t : Int} {es : List Ent} {x : Int} (h0 : 0 ≤ i) (hx : 0 ≤ x) (h : mayB i t es = true) (he : cut6E i es x = 0) : cutL i t es x = cut6L i es x := by
  have hn := num6_ofN (x := x - 1) h0 (may_room6 h)
  unfold cutL cut6L aheadN
  unfold cut6E at he
  rw [hn] at he ⊢
  have h1 : ¬ (x = 0 ∨ ofN i (x - 1) es.length < 0) := fun h1 => by rw [if_pos h1] at he; cases he
  rw [if_pos h, if_pos (by omega)]
theorem sm_ext {i t : Int} {F G : List Ent} (h : mayB i t F = true) : sameL (if xtE i t F G = 0 then i else 0) (if xtE i t F G = 0 then t else 0) (if xtE i t F G = 0 then F ++ G else []) (if extE i t F G = 0 then i else 0) (if extE i t F G = 0 then t else 0) (if extE i t F G = 0 then F ++ G else []) = true := by
  unfold xtE; rw [if_pos h]; exact sameL_self _ _ _
theorem sm_extf {i t : Int} {F G : List Ent} (h : mayB i t F = false) : sameL (if xtE i t F G = 0 then i else 0) (if xtE i t F G = 0 then t else 0) (if xtE i t F G = 0 then F ++ G else []) 0 0 [] = true := by
  have : xtE i t F G = 160 := by unfold xtE; rw [h]; rfl
  rw [this]; exact sameL_self _ _ _
theorem sm_cut {i t : Int} {F : List Ent} {x : Int} (h0 : 0 ≤ i) (hx : 0 ≤ x) (h : mayB i t F = true) : sameL (if (aheadN i t F x).2 = 0 then i else 0) (if (aheadN i t F x).2 = 0 then t else 0) (if (aheadN i t F x).2 = 0 then cutL i t F x else []) (if cut6E i F x = 0 then i else 0) (if cut6E i F x = 0 then t else 0) (if cut6E i F x = 0 then cut6L i F x else []) = true := by
  rw [ahead_cut h0 hx h]
  by_cases he : cut6E i F x = 0
  · rw [cutL_6 h0 hx h he]; exact sameL_self _ _ _
  · simp only [he, if_false]; exact sameL_self _ _ _
theorem sm_cutf {i t : Int} {F : List Ent} {x : Int} (h : mayB i t F = false) : sameL (if (aheadN i t F x).2 = 0 then i else 0) (if (aheadN i t F x).2 = 0 then t else 0) (if (aheadN i t F x).2 = 0 then cutL i t F x else []) 0 0 [] = true := by
  have : (aheadN i t F x).2 = 160 := by unfold aheadN; rw [h]; rfl
  rw [this]; exact sameL_self _ _ _
theorem comp_6 {i t : Int} {F : List Ent} {x : Int} (h0 : 0 ≤ i) (h : mayB i t F = true) : compE i t F x = 4 * comp6B i F x := by
  have hn := num6_ofN (x := x) h0 (may_room6 h)
  unfold compE comp6B
  rw [if_pos h, hn]
  by_cases h1 : 0 ≤ ofN i x F.length
  · rw [if_pos h1, if_neg (by omega)]; rfl
  · rw [if_neg h1, if_pos (by omega)]; rfl
theorem comp6_01 (i : Int) (F : List Ent) (x : Int) : comp6B i F x = 0 ∨ comp6B i F x = 1 := by unfold comp6B; split <;> simp
theorem sm_comp {i t : Int} {F : List Ent} {x : Int} (h0 : 0 ≤ i) (h : mayB i t F = true) : sameL (if compE i t F x = 0 then (cmI i t F x).1 else 0) (if compE i t F x = 0 then (cmI i t F x).2 else 0) (if compE i t F x = 0 then cmL i F x else []) (if comp6B i F x = 0 then (spotN i t F (num6 i x F.length).toNat).1 else 0) (if comp6B i F x = 0 then (spotN i t F (num6 i x F.length).toNat).2 else 0) (if comp6B i F x = 0 then F.drop (num6 i x F.length).toNat else []) = true := by
  have hn := num6_ofN (x := x) h0 (may_room6 h)
  rw [comp_6 h0 h, hn]
  rcases comp6_01 i F x with he | he <;> rw [he] <;> exact sameL_self _ _ _
theorem sm_compf {i t : Int} {F : List Ent} {x : Int} (h : mayB i t F = false) : sameL (if compE i t F x = 0 then (cmI i t F x).1 else 0) (if compE i t F x = 0 then (cmI i t F x).2 else 0) (if compE i t F x = 0 then cmL i F x else []) 0 0 [] = true := by
  have : compE i t F x = 160 := by unfold compE; rw [h]; rfl
  rw [this]; exact sameL_self _ _ _
theorem xt_t {i t : Int} {F : List Ent} (h : mayB i t F = true) (G : List Ent) : xtE i t F G = extE i t F G := by unfold xtE; rw [if_pos h]
theorem xt_f {i t : Int} {F : List Ent} (h : mayB i t F = false) (G : List Ent) : xtE i t F G = 160 := by unfold xtE; rw [h]; rfl
theorem ah_f {i t : Int} {F : List Ent} (h : mayB i t F = false) (x : Int) : (aheadN i t F x).2 = 160 := by unfold aheadN; rw [h]; rfl
theorem cm_f {i t : Int} {F : List Ent} (h : mayB i t F = false) (x : Int) : compE i t F x = 160 := by unfold compE; rw [h]; rfl
theorem end_6 {i t : Int} {F : List Ent} (h : mayB i t F = true) (G : List Ent) : endN (xtE i t F G) i t (F ++ G) = at6 (extE i t F G) i t (F ++ G) := by rw [xt_t h]; rfl
theorem end_f {i t : Int} {F : List Ent} (h : mayB i t F = false) (G : List Ent) : endN (xtE i t F G) i t (F ++ G) = (0, 0) := by rw [xt_f h]; rfl
/-- Entries that can be written over. -/
def Wo (x : List Ent) : Prop := x.length ≤ 1000 ∧ ∀ e ∈ x, e.D.length ≤ 1000000
theorem Wo.nil : Wo [] := ⟨by simp, by simp⟩
theorem Wo.few (es : List Ent) : Wo (fewL es) := ⟨by simp [fewL]; omega, fun e he => by
  obtain ⟨x, hx, rfl⟩ := List.mem_map.1 he
  simp [cutE]; omega⟩
theorem Wo.app {a b c d : List Ent} (h1 : a = fewL c) (h2 : b = fewL d) : Wo (a ++ b) := by
  subst h1 h2
  refine ⟨by simp [fewL]; omega, fun e he => ?_⟩
  rcases List.mem_append.1 he with he | he
  · exact (Wo.few _).2 e he
  · exact (Wo.few _).2 e he
theorem Wo.sub {a b : List Ent} (h : Wo a) (hl : b.length ≤ a.length) (hs : ∀ e ∈ b, e ∈ a) : Wo b := ⟨by have := h.1; omega, fun e he => h.2 e (hs e he)⟩
theorem Wo.take {a : List Ent} (h : Wo a) (k : Nat) : Wo (a.take k) := h.sub (by simp; omega) fun e he => List.mem_of_mem_take he
theorem Wo.drop {a : List Ent} (h : Wo a) (k : Nat) : Wo (a.drop k) := h.sub (by simp) fun e he => List.mem_of_mem_drop he
theorem Wo.ite {a : List Ent} (h : Wo a) (c : Prop) [Decidable c] : Wo (if c then a else []) := by split; exact h; exact Wo.nil
theorem Wo.bl {a b : List Ent} (h : Wo a) (hl : b.length = a.length) (hs : ∀ e ∈ b, ∃ e0 ∈ a, e.D.length = e0.D.length) : Wo b := ⟨by rw [hl]; exact h.1, fun e he => by
  obtain ⟨e0, h1, h2⟩ := hs e he
  rw [h2]; exact h.2 e0 h1⟩
theorem Wo.S {x : List Ent} (h : Wo x) {i t : Int} : SpB Try.prog 21 [logT i t (.sl true (x.map (entC true)))] := over_S (by have := h.1; omega) fun e he => by have := h.2 e he; omega
def lg3 (a1 a2 b1 b2 c1 c2 : Int) (x1 x2 x3 : List Ent) : XV := .ag [.p (.v (.int .u64 a1)) (nlv _), .p (.v (.int .u64 a2)) (nlv _), .p (.sl true (x1.map (entC true))) (nl_ents _ _).sl, .p (.v (.int .u64 b1)) (nlv _), .p (.v (.int .u64 b2)) (nlv _), .p (.sl true (x2.map (entC true))) (nl_ents _ _).sl, .p (.v (.int .u64 c1)) (nlv _), .p (.v (.int .u64 c2)) (nlv _), .p (.sl true (x3.map (entC true))) (nl_ents _ _).sl]
theorem bl3 {a1 a2 b1 b2 c1 c2 : Int} {x1 x2 x3 : List Ent} (h1 : Wo x1) (h2 : Wo x2) (h3 : Wo x3) {C C' : Cx} {u : Value} (hs : Shp C.B C.w C'.w) (hB : C'.B = C.B) (hS : ∀ k, C'.S k) (hd : Dn C (lg3 a1 a2 b1 b2 c1 c2 x1 x2 x3).den u) : ∃ y : List Ent × List Ent × List Ent, (Wo y.1 ∧ Wo y.2.1 ∧ Wo y.2.2) ∧ Dn C' (lg3 a1 a2 b1 b2 c1 c2 y.1 y.2.1 y.2.2).den u := by
  simp only [lg3, XV.den, XV.denL] at hd
  unfold Dn at hd
  obtain ⟨vs, rfl, hd⟩ := hd
  unfold DnL at hd; obtain ⟨v1, r1, rfl, d1, hd⟩ := hd
  unfold DnL at hd; obtain ⟨v2, r2, rfl, d2, hd⟩ := hd
  unfold DnL at hd; obtain ⟨v3, r3, rfl, d3, hd⟩ := hd
  unfold DnL at hd; obtain ⟨v4, r4, rfl, d4, hd⟩ := hd
  unfold DnL at hd; obtain ⟨v5, r5, rfl, d5, hd⟩ := hd
  unfold DnL at hd; obtain ⟨v6, r6, rfl, d6, hd⟩ := hd
  unfold DnL at hd; obtain ⟨v7, r7, rfl, d7, hd⟩ := hd
  unfold DnL at hd; obtain ⟨v8, r8, rfl, d8, hd⟩ := hd
  unfold DnL at hd; obtain ⟨v9, r9, rfl, d9, hd⟩ := hd
  obtain ⟨y1, p1, q1, e1⟩ := bl_ents hs hB hS d3
  obtain ⟨y2, p2, q2, e2⟩ := bl_ents hs hB hS d6
  obtain ⟨y3, p3, q3, e3⟩ := bl_ents hs hB hS d9
  simp only [Dn] at d1 d2 d4 d5 d7 d8
  simp only [DnL] at hd
  subst d1 d2 d4 d5 d7 d8 hd
  refine ⟨(y1, y2, y3), ⟨h1.bl p1 q1, h2.bl p2 q2, h3.bl p3 q3⟩, ?_⟩
  simp only [lg3, XV.den, XV.denL]
  unfold Dn
  exact ⟨_, rfl, .cons (by simp only [Dn]) (.cons (by simp only [Dn]) (.cons e1 (.cons (by simp only [Dn]) (.cons (by simp only [Dn]) (.cons e2 (.cons (by simp only [Dn]) (.cons (by simp only [Dn]) (.cons e3 .nil))))))))⟩
theorem pin_nl (i t : Int) (F : List Ent) : NlL [TV.v (.int .u64 i), .v (.int .u64 t), .sl false (F.map (entC false))] := .cons (nlv _) (.cons (nlv _) (.cons (nl_ents _ _).sl .nil))
theorem notF {b : Bool} (h : b = true) : (!b) = false := by rw [h]; rfl
theorem take1 {F : List Ent} {e : Ent} (h : F[0]? = some e) : F.take 1 = [e] := by
  cases F with
  | nil => simp at h
  | cons x r => simp at h; subst h; rfl
theorem ok1 {F : List Ent} (h : okE F) {e : Ent} (he : F[0]? = some e) : okE [e] := by
  have := h.take6 1
  rwa [take1 he] at this
theorem Wo.d {x : List Ent} (h : Wo x) : dOk x := h.2
theorem Wo.n {x : List Ent} (h : Wo x) : x.length ≤ 1000000 := by have := h.1; omega
theorem same6_W (b b' c c' : Bool) (i t i2 t2 : Int) {x : List Ent} (y : List Ent) (h : Wo x) : XMeets Try.prog 20 [logT i t (.sl b (x.map (entC b'))), logT i2 t2 (.sl c (y.map (entC c')))] (.p (.v (.bool (sameL i t x i2 t2 y))) (nlv _)) := same6_X b b' c c' i t i2 t2 x y h.d h.n
theorem ext6_1 (b b' : Bool) (i t : Int) (es : List Ent) (hi0 : 0 ≤ i) (hi1 : i < 18446744073709551616) (hn : es.length ≤ 500) (hd : dOk es) (b2 b2' : Bool) {G : List Ent} {e : Ent} (he : G[0]? = some e) (hm : okE G) : XMeets Try.prog 16 [logT i t (.sl b (es.map (entC b'))), .sl b2 ((G.take 1).map (entC b2'))] (.tu [lgX (extE i t es [e]) i t (es ++ [e]), atX (at6 (extE i t es [e]) i t (es ++ [e])), .p (.v (.int .i64 (extE i t es [e]))) (nlv _)]) := by
  rw [take1 he]
  exact extend6_X b b' i t es hi0 hi1 hn hd b2 b2' [e] (ok1 hm he) (by simp)
theorem Wo.one {F G : List Ent} {es gs : List Ent} {e : Ent} (h1 : fewL es = F) (h2 : fewL gs = G) (he : G[0]? = some e) : Wo (F ++ [e]) := by
  have := Wo.app (a := F) (b := G) h1.symm h2.symm
  refine this.sub ?_ fun z hz => ?_
  · have := (List.getElem?_eq_some_iff.1 he).1
    simp; omega
  · rcases List.mem_append.1 hz with hz | hz
    · simp [hz]
    · rw [List.mem_singleton] at hz; subst hz; simp [List.mem_of_getElem? he]
set_option maxHeartbeats 4000000 in
set_option maxRecDepth 20000 in
theorem lEnds_X (b b' c c' : Bool) {i t : Int} (es G0 : List Ent) (x : Int) (hi0 : 0 ≤ i) (hi1 : i < 18446744073709551616) (ht0 : 0 ≤ t) (hw : wfE es) (hwG : wfE G0) (hn : es.length ≤ 9223372036854775807) (hn2 : G0.length ≤ 9223372036854775807) (hx0 : 0 ≤ x) (hx1 : x < 18446744073709551616) : XMeets Try.prog 3 [logT i t (.sl b (es.map (entC b'))), .sl c (G0.map (entC c')), .v (.int .u64 x)] (.p (.v (.bool true)) (nlv _)) := by
  refine XMeets.of_XM [(5, .row 0)] tabX_ok (avs := [.ag [.p (.v (.int .u64 i)) (nlv _), .p (.v (.int .u64 t)) (nlv _), .p (.sl false (es.map (entC false))) (nl_ents _ _).sl], .p (.sl false (G0.map (entC false))) (nl_ents _ _).sl, .p (.v (.int .u64 x)) (nlv _)]) [(0, .ag [.p (.v (.int .u64 i)) (nlv _), .p (.v (.int .u64 t)) (nlv _), .p (.sl false (es.map (entC false))) (nl_ents _ _).sl]), (1, .p (.sl false (G0.map (entC false))) (nl_ents _ _).sl), (2, .p (.v (.int .u64 x)) (nlv _))] (by kernel_rfl) Try.func3 rfl (by simp [PuL, Pu, logT, atT, pu_ents, pu_bytes]) (by simp only [untagL, untag, logT, atT, untag_ents, untag_bytes]; rfl) rfl rfl ?_
  intro B w0
  obtain ⟨F, hF⟩ : ∃ F, fewL es = F := ⟨_, rfl⟩
  obtain ⟨G, hG⟩ : ∃ G, fewL G0 = G := ⟨_, rfl⟩
  have hokF : okE F := hF ▸ few_ok hw
  have hokG : okE G := hG ▸ few_ok hwG
  have hFF : fewL F = F := by rw [← hF]; exact few_few _
  have hlF : F.length ≤ 32 := by rw [← hF]; simp [fewL]; omega
  have hlG : G.length ≤ 32 := by rw [← hG]; simp [fewL]; omega
  have hWA : Wo (F ++ G) := Wo.app hF.symm hG.symm
  have hWF : Wo F := hF ▸ Wo.few es
  have hWG : Wo G := hG ▸ Wo.few G0
  have hWB : Wo (cutL i t F x) := hWF.take _
  have hWC : Wo (cmL i F x) := hWF.drop _
  conv => whnf
  refine .ct ?_
  conv => whnf
  refine CallG.mk (wakes_X) rfl ?_
  conv => whnf
  refine .ct ?_
  conv => whnf
  refine CallG.mk (own_X _ _ _ _ es hn hF) rfl ?_
  conv => whnf
  refine .ct ?_
  conv => whnf
  refine CallG.mk (own_X _ _ _ _ F (by omega) hFF) rfl ?_
  conv => whnf
  refine .ct ?_
  conv => whnf
  refine CallG.mk (fewX _ _ G0 hn2 hG) rfl ?_
  conv => whnf
  refine .ct ?_
  conv => whnf
  refine CallG.mk (fewX _ _ G0 hn2 hG) rfl ?_
  conv => whnf
  refine XT.mark tabX_ok 10 [3, 7, 8, 9] ?_
  intro M w1 us
  refine ⟨[(3, .pin (us 3) (.eptr [.v (.int .u64 i), .v (.int .u64 t), .sl false (F.map (entC false))]) ((pin_nl _ _ _).eptr)), (7, .pin (us 7) (.eptr [.v (.int .u64 i), .v (.int .u64 t), .sl false (F.map (entC false))]) ((pin_nl _ _ _).eptr)), (8, .pin (us 8) (.sl false (G.map (entC false))) ((nl_ents _ _).sl)), (9, .pin (us 9) (.sl false (G.map (entC false))) ((nl_ents _ _).sl))], ?_, ?_⟩
  · skip
    refine ⟨.pin rfl rfl (by simp [Pu, PuL, pu_ents]) (by simp only [untag, untagL, untag_ents]), ?_⟩
    refine ⟨.pin rfl rfl (by simp [Pu, PuL, pu_ents]) (by simp only [untag, untagL, untag_ents]), ?_⟩
    refine ⟨.pin rfl rfl (by simp [Pu, PuL, pu_ents]) (by simp only [untag, untagL, untag_ents]), ?_⟩
    refine ⟨.pin rfl rfl (by simp [Pu, PuL, pu_ents]) (by simp only [untag, untagL, untag_ents]), ?_⟩
    exact True.intro
  · skip
    intro hpins
    obtain ⟨hp3, hp7, hp8, hp9, -⟩ : PinOk M w1 (us 3) (.eptr [.v (.int .u64 i), .v (.int .u64 t), .sl false (F.map (entC false))]) ∧ PinOk M w1 (us 7) (.eptr [.v (.int .u64 i), .v (.int .u64 t), .sl false (F.map (entC false))]) ∧ PinOk M w1 (us 8) (.sl false (G.map (entC false))) ∧ PinOk M w1 (us 9) (.sl false (G.map (entC false))) ∧ True := hpins
    conv => whnf
    refine ⟨by assumption, ?_⟩
    conv => whnf
    refine ⟨by assumption, ?_⟩
    conv => whnf
    refine .ct ?_
    conv => whnf
    refine CallG.mk (extend_X _ _ _ _ F hokF hi0 hi1 _ _ G hokG) rfl ?_
    conv => whnf
    refine ⟨by assumption, ?_⟩
    conv => whnf
    refine .ct ?_
    conv => whnf
    refine CallG.mk (cut_X _ _ _ _ F hokF hi0 hi1 x hx0 hx1) rfl ?_
    conv => whnf
    refine ⟨by assumption, ?_⟩
    conv => whnf
    refine .ct ?_
    conv => whnf
    refine CallG.mk (comp_X _ _ _ _ F hokF hi0 hi1 x hx0 hx1) rfl ?_
    conv => whnf
    refine ⟨by assumption, ?_⟩
    conv => whnf
    refine ⟨by assumption, ?_⟩
    conv => whnf
    refine .ct ?_
    conv => whnf
    refine CallG.mk (extend6_X _ _ _ _ F hi0 hi1 (by omega) hokF.dok _ _ G hokG (by omega)) rfl ?_
    conv => whnf
    refine ⟨by assumption, ?_⟩
    conv => whnf
    refine .ct ?_
    conv => whnf
    refine CallG.mk (cut6_X _ _ _ _ F x hi0 hi1 (by omega) hokF.dok hx0 hx1) rfl ?_
    conv => whnf
    refine ⟨by assumption, ?_⟩
    conv => whnf
    refine .ct ?_
    conv => whnf
    refine CallG.mk (comp6_X _ _ _ _ F x hi0 hi1 (by omega) hokF.dok) rfl ?_
    conv => whnf
    cases hc1 : (decide (comp6B i F x = 0))
    · skip
      try simp only [bls] at hc1
      conv => whnf
      refine ⟨by assumption, ?_⟩
      conv => whnf
      refine .ct ?_
      conv => whnf
      refine CallG.mk (right_X _ _ _ _ F hokF hi0 hi1 ht0) rfl ?_
      conv => whnf
      cases hc2 : (mayB i t F)
      · skip
        try simp only [bls] at hc2
        conv => whnf
        refine bF (by have hm : mayB i t F = false := (by assumption); simp [xt_f hm]; done) ?_
        conv => whnf
        refine bF (by have hm : mayB i t F = false := (by assumption); simp [xt_f hm]; done) ?_
        conv => whnf
        refine bF (by have hm : mayB i t F = false := (by assumption); simp [xt_f hm]; done) ?_
        conv => whnf
        refine bF (by have hm : mayB i t F = false := (by assumption); simp [xt_f hm]; done) ?_
        conv => whnf
        refine bF (by have hm : mayB i t F = false := (by assumption); simp [ah_f hm]; done) ?_
        conv => whnf
        refine bF (by have hm : mayB i t F = false := (by assumption); simp [ah_f hm]; done) ?_
        conv => whnf
        refine bF (by have hm : mayB i t F = false := (by assumption); simp [ah_f hm]; done) ?_
        conv => whnf
        refine bF (by have hm : mayB i t F = false := (by assumption); simp [ah_f hm]; done) ?_
        conv => whnf
        refine bF (by have hm : mayB i t F = false := (by assumption); simp [cm_f hm]; done) ?_
        conv => whnf
        refine bF (by have hm : mayB i t F = false := (by assumption); simp [cm_f hm]; done) ?_
        conv => whnf
        refine bF (by have hm : mayB i t F = false := (by assumption); simp [cm_f hm]; done) ?_
        conv => whnf
        refine BinG.mk rfl rfl (neAt6_run _ _ _ _ _ _) ?_
        conv => whnf
        refine bF (by have hm : mayB i t F = false := (by assumption); simp [cm_f hm]; done) ?_
        conv => whnf
        refine bF (by have hm : mayB i t F = false := (by assumption); simp [end_f hm]; done) ?_
        conv => whnf
        refine bF (by have hm : mayB i t F = false := (by assumption); simp [end_f hm]; done) ?_
        conv => whnf
        refine bF (by have hm : mayB i t F = false := (by assumption); simp [end_f hm]; done) ?_
        conv => whnf
        refine .ct ?_
        conv => whnf
        refine CallG.mk (same6_W _ _ true true _ _ _ _ [] (Wo.ite hWA _)) rfl ?_
        conv => whnf
        refine bF (by have hm : mayB i t F = false := (by assumption); simp [end_f hm]; done) ?_
        conv => whnf
        refine bF (by have hm : mayB i t F = false := (by assumption); simp [end_f hm]; done) ?_
        conv => whnf
        refine bF (notF (sm_extf (by assumption))) ?_
        conv => whnf
        refine bF (notF (sm_extf (by assumption))) ?_
        conv => whnf
        refine bF (notF (sm_extf (by assumption))) ?_
        conv => whnf
        refine .ct ?_
        conv => whnf
        refine CallG.mk (same6_W _ _ true true _ _ _ _ [] (Wo.ite hWB _)) rfl ?_
        conv => whnf
        refine bF (notF (sm_extf (by assumption))) ?_
        conv => whnf
        refine bF (notF (sm_extf (by assumption))) ?_
        conv => whnf
        refine bF (notF (sm_cutf (by assumption))) ?_
        conv => whnf
        refine bF (notF (sm_cutf (by assumption))) ?_
        conv => whnf
        refine bF (notF (sm_cutf (by assumption))) ?_
        conv => whnf
        refine .ct ?_
        conv => whnf
        refine CallG.mk (same6_W _ _ true true _ _ _ _ [] (Wo.ite hWC _)) rfl ?_
        conv => whnf
        refine bF (notF (sm_cutf (by assumption))) ?_
        conv => whnf
        refine bF (notF (sm_cutf (by assumption))) ?_
        conv => whnf
        refine bF (notF (sm_compf (by assumption))) ?_
        conv => whnf
        refine XT.clear2 [129] ?_
        conv => whnf
        refine XT.loop tabX_ok (Y := Nat × List Ent × List Ent × List Ent) [26, 129, 130, 131, 132, 133, 134, 135] (fun (k, x1, x2, x3) => [(129, lg3 (if xtE i t F G = 0 then i else 0) (if xtE i t F G = 0 then t else 0) (if (aheadN i t F x).2 = 0 then i else 0) (if (aheadN i t F x).2 = 0 then t else 0) (if compE i t F x = 0 then (cmI i t F x).1 else 0) (if compE i t F x = 0 then (cmI i t F x).2 else 0) x1 x2 x3), (130, .p (.v (.int .i64 (k : Int))) (nlv _))]) (fun (k, x1, x2, x3) => []) (fun (k, x1, x2, x3) => k ≤ 3 ∧ Wo x1 ∧ Wo x2 ∧ Wo x3) (fun (k, x1, x2, x3) => 3 - k) (0, (if xtE i t F G = 0 then F ++ G else []), (if (aheadN i t F x).2 = 0 then cutL i t F x else []), (if compE i t F x = 0 then cmL i F x else [])) ⟨by omega, hWA.ite _, hWB.ite _, hWC.ite _⟩ ?_ ?_
        · skip
          refine ⟨?_, ?_, ?_⟩
          · skip
            repeat ((conv => whnf); first | exact True.intro | refine ⟨.rfl, ?_⟩ | refine ⟨.any, ?_⟩ | refine ⟨.nil, ?_⟩ | refine ⟨.int (by first | rfl | omega | (simp only [wrs]; omega)), ?_⟩)
          · skip
            repeat (first | exact LeVs.nil | ((conv => whnf); first | exact True.intro | exact .none | exact .row rfl | refine .cells ?_ | refine ⟨_, _, rfl, .rfl, ?_⟩ | refine ⟨_, _, rfl, .any, ?_⟩ | refine ⟨_, _, rfl, .nil, ?_⟩ | refine ⟨_, _, rfl, .int (by first | rfl | omega | (simp only [wrs]; omega)), ?_⟩ | refine ⟨?_, ?_⟩))
          · skip
            repeat (first | exact LeFr.nil | ((conv => whnf); first | exact True.intro | refine ⟨.rfl, ?_⟩ | refine ⟨_, _, rfl, rfl, ?_, ?_⟩))
        · skip
          rintro ⟨k, x1, x2, x3⟩ ⟨hk, hw1, hw2, hw3⟩
          rcases (show k = 0 ∨ k = 1 ∨ k = 2 ∨ k = 3 by omega) with rfl | rfl | rfl | rfl
          · skip
            conv => whnf
            refine ⟨0, rfl, Nat.le_of_ble_eq_true rfl, ?_⟩
            conv => whnf
            refine .wr (WCall.spoilB 129 (Y := List Ent × List Ent × List Ent) (fun y => lg3 (if xtE i t F G = 0 then i else 0) (if xtE i t F G = 0 then t else 0) (if (aheadN i t F x).2 = 0 then i else 0) (if (aheadN i t F x).2 = 0 then t else 0) (if compE i t F x = 0 then (cmI i t F x).1 else 0) (if compE i t F x = 0 then (cmI i t F x).2 else 0) y.1 y.2.1 y.2.2) (fun y => Wo y.1 ∧ Wo y.2.1 ∧ Wo y.2.2) hw1.S rfl rfl (fun C C2 u hs hB hS hd => bl3 hw1 hw2 hw3 hs hB hS hd) ?_)
            rintro ⟨y1, y2, y3⟩ ⟨hy1, hy2, hy3⟩
            conv => whnf
            refine ⟨(1, y1, y2, y3), ⟨by omega, hy1, hy2, hy3⟩, (by show (3 - 1 : Nat) < 3 - 0; omega), ?_⟩
            refine ⟨?_, ?_, ?_⟩
            · skip
              repeat ((conv => whnf); first | exact True.intro | refine ⟨.rfl, ?_⟩ | refine ⟨.any, ?_⟩ | refine ⟨.nil, ?_⟩ | refine ⟨.int (by first | rfl | omega | (simp only [wrs]; omega)), ?_⟩)
            · skip
              repeat (first | exact LeVs.nil | ((conv => whnf); first | exact True.intro | exact .none | exact .row rfl | refine .cells ?_ | refine ⟨_, _, rfl, .rfl, ?_⟩ | refine ⟨_, _, rfl, .any, ?_⟩ | refine ⟨_, _, rfl, .nil, ?_⟩ | refine ⟨_, _, rfl, .int (by first | rfl | omega | (simp only [wrs]; omega)), ?_⟩ | refine ⟨?_, ?_⟩))
            · skip
              repeat (first | exact LeFr.nil | ((conv => whnf); first | exact True.intro | refine ⟨.rfl, ?_⟩ | refine ⟨_, _, rfl, rfl, ?_, ?_⟩))
          · skip
            conv => whnf
            refine ⟨1, rfl, Nat.le_of_ble_eq_true rfl, ?_⟩
            conv => whnf
            refine .wr (WCall.spoilB 129 (Y := List Ent × List Ent × List Ent) (fun y => lg3 (if xtE i t F G = 0 then i else 0) (if xtE i t F G = 0 then t else 0) (if (aheadN i t F x).2 = 0 then i else 0) (if (aheadN i t F x).2 = 0 then t else 0) (if compE i t F x = 0 then (cmI i t F x).1 else 0) (if compE i t F x = 0 then (cmI i t F x).2 else 0) y.1 y.2.1 y.2.2) (fun y => Wo y.1 ∧ Wo y.2.1 ∧ Wo y.2.2) hw2.S rfl rfl (fun C C2 u hs hB hS hd => bl3 hw1 hw2 hw3 hs hB hS hd) ?_)
            rintro ⟨y1, y2, y3⟩ ⟨hy1, hy2, hy3⟩
            conv => whnf
            refine ⟨(2, y1, y2, y3), ⟨by omega, hy1, hy2, hy3⟩, (by show (3 - 2 : Nat) < 3 - 1; omega), ?_⟩
            refine ⟨?_, ?_, ?_⟩
            · skip
              repeat ((conv => whnf); first | exact True.intro | refine ⟨.rfl, ?_⟩ | refine ⟨.any, ?_⟩ | refine ⟨.nil, ?_⟩ | refine ⟨.int (by first | rfl | omega | (simp only [wrs]; omega)), ?_⟩)
            · skip
              repeat (first | exact LeVs.nil | ((conv => whnf); first | exact True.intro | exact .none | exact .row rfl | refine .cells ?_ | refine ⟨_, _, rfl, .rfl, ?_⟩ | refine ⟨_, _, rfl, .any, ?_⟩ | refine ⟨_, _, rfl, .nil, ?_⟩ | refine ⟨_, _, rfl, .int (by first | rfl | omega | (simp only [wrs]; omega)), ?_⟩ | refine ⟨?_, ?_⟩))
            · skip
              repeat (first | exact LeFr.nil | ((conv => whnf); first | exact True.intro | refine ⟨.rfl, ?_⟩ | refine ⟨_, _, rfl, rfl, ?_, ?_⟩))
          · skip
            conv => whnf
            refine ⟨2, rfl, Nat.le_of_ble_eq_true rfl, ?_⟩
            conv => whnf
            refine .wr (WCall.spoilB 129 (Y := List Ent × List Ent × List Ent) (fun y => lg3 (if xtE i t F G = 0 then i else 0) (if xtE i t F G = 0 then t else 0) (if (aheadN i t F x).2 = 0 then i else 0) (if (aheadN i t F x).2 = 0 then t else 0) (if compE i t F x = 0 then (cmI i t F x).1 else 0) (if compE i t F x = 0 then (cmI i t F x).2 else 0) y.1 y.2.1 y.2.2) (fun y => Wo y.1 ∧ Wo y.2.1 ∧ Wo y.2.2) hw3.S rfl rfl (fun C C2 u hs hB hS hd => bl3 hw1 hw2 hw3 hs hB hS hd) ?_)
            rintro ⟨y1, y2, y3⟩ ⟨hy1, hy2, hy3⟩
            conv => whnf
            refine ⟨(3, y1, y2, y3), ⟨by omega, hy1, hy2, hy3⟩, (by show (3 - 3 : Nat) < 3 - 2; omega), ?_⟩
            refine ⟨?_, ?_, ?_⟩
            · skip
              repeat ((conv => whnf); first | exact True.intro | refine ⟨.rfl, ?_⟩ | refine ⟨.any, ?_⟩ | refine ⟨.nil, ?_⟩ | refine ⟨.int (by first | rfl | omega | (simp only [wrs]; omega)), ?_⟩)
            · skip
              repeat (first | exact LeVs.nil | ((conv => whnf); first | exact True.intro | exact .none | exact .row rfl | refine .cells ?_ | refine ⟨_, _, rfl, .rfl, ?_⟩ | refine ⟨_, _, rfl, .any, ?_⟩ | refine ⟨_, _, rfl, .nil, ?_⟩ | refine ⟨_, _, rfl, .int (by first | rfl | omega | (simp only [wrs]; omega)), ?_⟩ | refine ⟨?_, ?_⟩))
            · skip
              repeat (first | exact LeFr.nil | ((conv => whnf); first | exact True.intro | refine ⟨.rfl, ?_⟩ | refine ⟨_, _, rfl, rfl, ?_, ?_⟩))
          · skip
            conv => whnf
            refine ⟨⟨⟨_, _, rfl⟩, rfl, ⟨_, _, rfl⟩, rfl, ⟨_, _, rfl⟩, rfl, ⟨_, _, rfl⟩, rfl, True.intro⟩, ?_⟩
            conv => whnf
            refine XT.of tabX_ok ?_
            conv => whnf
            refine .ct ?_
            conv => whnf
            refine CallG.mk (same6_W _ _ _ _ _ _ _ _ _ hWF) rfl ?_
            conv => whnf
            refine bF (notF (sameL_self _ _ _)) ?_
            conv => whnf
            refine bF (notF (sameL_self _ _ _)) ?_
            conv => whnf
            refine bF (notF (sameL_self _ _ _)) ?_
            conv => whnf
            refine .ct ?_
            conv => whnf
            refine CallG.mk (sameE6_X _ _ _ _ G G hokG.dok (by omega)) rfl ?_
            conv => whnf
            refine bF (notF (sameL_self _ _ _)) ?_
            conv => whnf
            refine bF (notF (sameL_self _ _ _)) ?_
            conv => whnf
            refine bF (notF (sameE_t rfl)) ?_
            conv => whnf
            cases hc3 : (decide (0 < (↑(List.map (entC true) G).length : Int)))
            · skip
              try simp only [bls] at hc3
              conv => whnf
              refine FinG.mk none ?_ (by rintro _ ⟨⟩)
              simp only [outs, List.length_map, List.length_append, List.length_take, List.length_drop, List.length_cons, List.length_nil, atC, entC, byC, atX, at6]
            · skip
              try simp only [bls] at hc3
              conv => whnf
              refine RegG.latea 14 [] (by kernel_rfl) ?_
              conv => whnf
              refine IdxG.map _ rfl (by first | omega | (simp only [bls] at *; omega)) ?_; intro x_ hx_ hk_
              conv => whnf
              refine ⟨rfl, ?_⟩
              conv => whnf
              refine CallG.mk (append_X _ _ _ _ F hokF hi0 hi1 _ _ (ok1 hokG (by assumption))) rfl ?_
              conv => whnf
              refine ⟨rfl, ?_⟩
              conv => whnf
              refine ⟨rfl, ?_⟩
              conv => whnf
              refine RegG.latea 13 [] (by kernel_rfl) ?_
              conv => whnf
              refine ⟨1, rfl, Nat.le_of_ble_eq_true rfl, ?_⟩
              conv => whnf
              refine ⟨by simp only [bls]; omega, ?_⟩
              conv => whnf
              refine ⟨fun c hc => by obtain ⟨y, _, rfl⟩ := List.mem_map.1 hc; rfl, ?_⟩
              conv => whnf
              simp only [← List.map_take]
              conv => whnf
              refine CallG.mk (ext6_1 _ _ _ _ F hi0 hi1 (by omega) hokF.dok _ _ (by assumption) hokG) rfl ?_
              conv => whnf
              refine ⟨rfl, ?_⟩
              conv => whnf
              refine ⟨rfl, ?_⟩
              conv => whnf
              refine .ct ?_
              conv => whnf
              refine CallG.mk (right_X _ _ _ _ F hokF hi0 hi1 ht0) rfl ?_
              conv => whnf
              cases hc4 : (mayB i t F)
              · skip
                try simp only [bls] at hc4
                conv => whnf
                refine bT (by have hm : mayB i t F = false := (by assumption); simp [xt_f hm]; done) ?_
                conv => whnf
                refine bT (by have hm : mayB i t F = false := (by assumption); simp [xt_f hm]; done) ?_
                conv => whnf
                refine bT (by have hm : mayB i t F = false := (by assumption); simp [xt_f hm]; done) ?_
                conv => whnf
                refine BinG.mk rfl rfl (eqAt6_run _ _ _ _ _ _) ?_
                conv => whnf
                refine bT (by have hm : mayB i t F = false := (by assumption); simp [xt_f hm]; done) ?_
                conv => whnf
                refine bT (by have hm : mayB i t F = false := (by assumption); simp [end_f hm]; done) ?_
                conv => whnf
                refine bT (by have hm : mayB i t F = false := (by assumption); simp [end_f hm]; done) ?_
                conv => whnf
                refine bT (by have hm : mayB i t F = false := (by assumption); simp [end_f hm]; done) ?_
                conv => whnf
                refine .ct ?_
                conv => whnf
                refine CallG.mk (same6_W _ _ true true _ _ _ _ [] (Wo.ite (Wo.one hF hG (by assumption)) _)) rfl ?_
                conv => whnf
                refine bT (by have hm : mayB i t F = false := (by assumption); simp [end_f hm]; done) ?_
                conv => whnf
                refine FinG.mk none ?_ (by rintro _ ⟨⟩)
                simp only [outs, List.length_map, List.length_append, List.length_take, List.length_drop, List.length_cons, List.length_nil, atC, entC, byC, atX, at6]
                rw [sm_extf (by assumption)]
              · skip
                try simp only [bls] at hc4
                conv => whnf
                refine bT (by have hm : mayB i t F = true := (by assumption); simp [xt_t hm]; done) ?_
                conv => whnf
                refine bT (by have hm : mayB i t F = true := (by assumption); simp [xt_t hm]; done) ?_
                conv => whnf
                refine bT (by have hm : mayB i t F = true := (by assumption); simp [xt_t hm]; done) ?_
                conv => whnf
                refine BinG.mk rfl rfl (eqAt6_run _ _ _ _ _ _) ?_
                conv => whnf
                refine bT (by have hm : mayB i t F = true := (by assumption); simp [xt_t hm]; done) ?_
                conv => whnf
                refine bT (by have hm : mayB i t F = true := (by assumption); simp [end_6 hm, at6]; done) ?_
                conv => whnf
                refine bT (by have hm : mayB i t F = true := (by assumption); simp [end_6 hm, at6]; done) ?_
                conv => whnf
                refine bT (by have hm : mayB i t F = true := (by assumption); simp [end_6 hm, at6]; done) ?_
                conv => whnf
                refine .ct ?_
                conv => whnf
                refine CallG.mk (same6_W _ _ _ _ _ _ _ _ _ (Wo.ite (Wo.one hF hG (by assumption)) _)) rfl ?_
                conv => whnf
                refine bT (by have hm : mayB i t F = true := (by assumption); simp [end_6 hm, at6]; done) ?_
                conv => whnf
                refine FinG.mk none ?_ (by rintro _ ⟨⟩)
                simp only [outs, List.length_map, List.length_append, List.length_take, List.length_drop, List.length_cons, List.length_nil, atC, entC, byC, atX, at6]
                rw [sm_ext (by assumption)]
      · skip
        try simp only [bls] at hc2
        conv => whnf
        refine bF (by have hm : mayB i t F = true := (by assumption); simp [xt_t hm]; done) ?_
        conv => whnf
        refine bF (by have hm : mayB i t F = true := (by assumption); simp [xt_t hm]; done) ?_
        conv => whnf
        refine bF (by have hm : mayB i t F = true := (by assumption); simp [xt_t hm]; done) ?_
        conv => whnf
        refine bF (by have hm : mayB i t F = true := (by assumption); simp [xt_t hm]; done) ?_
        conv => whnf
        refine bF (by have hm : mayB i t F = true := (by assumption); simp [ahead_cut hi0 hx0 hm]; done) ?_
        conv => whnf
        refine bF (by have hm : mayB i t F = true := (by assumption); simp [ahead_cut hi0 hx0 hm]; done) ?_
        conv => whnf
        refine bF (by have hm : mayB i t F = true := (by assumption); simp [ahead_cut hi0 hx0 hm]; done) ?_
        conv => whnf
        refine bF (by have hm : mayB i t F = true := (by assumption); simp [ahead_cut hi0 hx0 hm]; done) ?_
        conv => whnf
        refine bF (by have hm : mayB i t F = true := (by assumption); have h0 := comp6_01 i F x; have h1 : comp6B i F x = 1 := (by omega); simp [comp_6 hi0 hm, h1]; done) ?_
        conv => whnf
        refine bF (by have hm : mayB i t F = true := (by assumption); have h0 := comp6_01 i F x; have h1 : comp6B i F x = 1 := (by omega); simp [comp_6 hi0 hm, h1]; done) ?_
        conv => whnf
        refine bF (by have hm : mayB i t F = true := (by assumption); have h0 := comp6_01 i F x; have h1 : comp6B i F x = 1 := (by omega); simp [comp_6 hi0 hm, h1]; done) ?_
        conv => whnf
        refine BinG.mk rfl rfl (neAt6_run _ _ _ _ _ _) ?_
        conv => whnf
        refine bF (by have hm : mayB i t F = true := (by assumption); have h0 := comp6_01 i F x; have h1 : comp6B i F x = 1 := (by omega); simp [comp_6 hi0 hm, h1]; done) ?_
        conv => whnf
        refine bF (by have hm : mayB i t F = true := (by assumption); simp [end_6 hm, at6]; done) ?_
        conv => whnf
        refine bF (by have hm : mayB i t F = true := (by assumption); simp [end_6 hm, at6]; done) ?_
        conv => whnf
        refine bF (by have hm : mayB i t F = true := (by assumption); simp [end_6 hm, at6]; done) ?_
        conv => whnf
        refine .ct ?_
        conv => whnf
        refine CallG.mk (same6_W _ _ _ _ _ _ _ _ _ (Wo.ite hWA _)) rfl ?_
        conv => whnf
        refine bF (by have hm : mayB i t F = true := (by assumption); simp [end_6 hm, at6]; done) ?_
        conv => whnf
        refine bF (by have hm : mayB i t F = true := (by assumption); simp [end_6 hm, at6]; done) ?_
        conv => whnf
        refine bF (notF (sm_ext (by assumption))) ?_
        conv => whnf
        refine bF (notF (sm_ext (by assumption))) ?_
        conv => whnf
        refine bF (notF (sm_ext (by assumption))) ?_
        conv => whnf
        refine .ct ?_
        conv => whnf
        refine CallG.mk (same6_W _ _ _ _ _ _ _ _ _ (Wo.ite hWB _)) rfl ?_
        conv => whnf
        refine bF (notF (sm_ext (by assumption))) ?_
        conv => whnf
        refine bF (notF (sm_ext (by assumption))) ?_
        conv => whnf
        refine bF (notF (sm_cut hi0 hx0 (by assumption))) ?_
        conv => whnf
        refine bF (notF (sm_cut hi0 hx0 (by assumption))) ?_
        conv => whnf
        refine bF (notF (sm_cut hi0 hx0 (by assumption))) ?_
        conv => whnf
        refine .ct ?_
        conv => whnf
        refine CallG.mk (same6_W _ _ _ _ _ _ _ _ _ (Wo.ite hWC _)) rfl ?_
        conv => whnf
        refine bF (notF (sm_cut hi0 hx0 (by assumption))) ?_
        conv => whnf
        refine bF (notF (sm_cut hi0 hx0 (by assumption))) ?_
        conv => whnf
        refine bF (notF (sm_comp hi0 (by assumption))) ?_
        conv => whnf
        refine XT.clear2 [129] ?_
        conv => whnf
        refine XT.loop tabX_ok (Y := Nat × List Ent × List Ent × List Ent) [26, 129, 130, 131, 132, 133, 134, 135] (fun (k, x1, x2, x3) => [(129, lg3 (if xtE i t F G = 0 then i else 0) (if xtE i t F G = 0 then t else 0) (if (aheadN i t F x).2 = 0 then i else 0) (if (aheadN i t F x).2 = 0 then t else 0) (if compE i t F x = 0 then (cmI i t F x).1 else 0) (if compE i t F x = 0 then (cmI i t F x).2 else 0) x1 x2 x3), (130, .p (.v (.int .i64 (k : Int))) (nlv _))]) (fun (k, x1, x2, x3) => []) (fun (k, x1, x2, x3) => k ≤ 3 ∧ Wo x1 ∧ Wo x2 ∧ Wo x3) (fun (k, x1, x2, x3) => 3 - k) (0, (if xtE i t F G = 0 then F ++ G else []), (if (aheadN i t F x).2 = 0 then cutL i t F x else []), (if compE i t F x = 0 then cmL i F x else [])) ⟨by omega, hWA.ite _, hWB.ite _, hWC.ite _⟩ ?_ ?_
        · skip
          refine ⟨?_, ?_, ?_⟩
          · skip
            repeat ((conv => whnf); first | exact True.intro | refine ⟨.rfl, ?_⟩ | refine ⟨.any, ?_⟩ | refine ⟨.nil, ?_⟩ | refine ⟨.int (by first | rfl | omega | (simp only [wrs]; omega)), ?_⟩)
          · skip
            repeat (first | exact LeVs.nil | ((conv => whnf); first | exact True.intro | exact .none | exact .row rfl | refine .cells ?_ | refine ⟨_, _, rfl, .rfl, ?_⟩ | refine ⟨_, _, rfl, .any, ?_⟩ | refine ⟨_, _, rfl, .nil, ?_⟩ | refine ⟨_, _, rfl, .int (by first | rfl | omega | (simp only [wrs]; omega)), ?_⟩ | refine ⟨?_, ?_⟩))
          · skip
            repeat (first | exact LeFr.nil | ((conv => whnf); first | exact True.intro | refine ⟨.rfl, ?_⟩ | refine ⟨_, _, rfl, rfl, ?_, ?_⟩))
        · skip
          rintro ⟨k, x1, x2, x3⟩ ⟨hk, hw1, hw2, hw3⟩
          rcases (show k = 0 ∨ k = 1 ∨ k = 2 ∨ k = 3 by omega) with rfl | rfl | rfl | rfl
          · skip
            conv => whnf
            refine ⟨0, rfl, Nat.le_of_ble_eq_true rfl, ?_⟩
            conv => whnf
            refine .wr (WCall.spoilB 129 (Y := List Ent × List Ent × List Ent) (fun y => lg3 (if xtE i t F G = 0 then i else 0) (if xtE i t F G = 0 then t else 0) (if (aheadN i t F x).2 = 0 then i else 0) (if (aheadN i t F x).2 = 0 then t else 0) (if compE i t F x = 0 then (cmI i t F x).1 else 0) (if compE i t F x = 0 then (cmI i t F x).2 else 0) y.1 y.2.1 y.2.2) (fun y => Wo y.1 ∧ Wo y.2.1 ∧ Wo y.2.2) hw1.S rfl rfl (fun C C2 u hs hB hS hd => bl3 hw1 hw2 hw3 hs hB hS hd) ?_)
            rintro ⟨y1, y2, y3⟩ ⟨hy1, hy2, hy3⟩
            conv => whnf
            refine ⟨(1, y1, y2, y3), ⟨by omega, hy1, hy2, hy3⟩, (by show (3 - 1 : Nat) < 3 - 0; omega), ?_⟩
            refine ⟨?_, ?_, ?_⟩
            · skip
              repeat ((conv => whnf); first | exact True.intro | refine ⟨.rfl, ?_⟩ | refine ⟨.any, ?_⟩ | refine ⟨.nil, ?_⟩ | refine ⟨.int (by first | rfl | omega | (simp only [wrs]; omega)), ?_⟩)
            · skip
              repeat (first | exact LeVs.nil | ((conv => whnf); first | exact True.intro | exact .none | exact .row rfl | refine .cells ?_ | refine ⟨_, _, rfl, .rfl, ?_⟩ | refine ⟨_, _, rfl, .any, ?_⟩ | refine ⟨_, _, rfl, .nil, ?_⟩ | refine ⟨_, _, rfl, .int (by first | rfl | omega | (simp only [wrs]; omega)), ?_⟩ | refine ⟨?_, ?_⟩))
            · skip
              repeat (first | exact LeFr.nil | ((conv => whnf); first | exact True.intro | refine ⟨.rfl, ?_⟩ | refine ⟨_, _, rfl, rfl, ?_, ?_⟩))
          · skip
            conv => whnf
            refine ⟨1, rfl, Nat.le_of_ble_eq_true rfl, ?_⟩
            conv => whnf
            refine .wr (WCall.spoilB 129 (Y := List Ent × List Ent × List Ent) (fun y => lg3 (if xtE i t F G = 0 then i else 0) (if xtE i t F G = 0 then t else 0) (if (aheadN i t F x).2 = 0 then i else 0) (if (aheadN i t F x).2 = 0 then t else 0) (if compE i t F x = 0 then (cmI i t F x).1 else 0) (if compE i t F x = 0 then (cmI i t F x).2 else 0) y.1 y.2.1 y.2.2) (fun y => Wo y.1 ∧ Wo y.2.1 ∧ Wo y.2.2) hw2.S rfl rfl (fun C C2 u hs hB hS hd => bl3 hw1 hw2 hw3 hs hB hS hd) ?_)
            rintro ⟨y1, y2, y3⟩ ⟨hy1, hy2, hy3⟩
            conv => whnf
            refine ⟨(2, y1, y2, y3), ⟨by omega, hy1, hy2, hy3⟩, (by show (3 - 2 : Nat) < 3 - 1; omega), ?_⟩
            refine ⟨?_, ?_, ?_⟩
            · skip
              repeat ((conv => whnf); first | exact True.intro | refine ⟨.rfl, ?_⟩ | refine ⟨.any, ?_⟩ | refine ⟨.nil, ?_⟩ | refine ⟨.int (by first | rfl | omega | (simp only [wrs]; omega)), ?_⟩)
            · skip
              repeat (first | exact LeVs.nil | ((conv => whnf); first | exact True.intro | exact .none | exact .row rfl | refine .cells ?_ | refine ⟨_, _, rfl, .rfl, ?_⟩ | refine ⟨_, _, rfl, .any, ?_⟩ | refine ⟨_, _, rfl, .nil, ?_⟩ | refine ⟨_, _, rfl, .int (by first | rfl | omega | (simp only [wrs]; omega)), ?_⟩ | refine ⟨?_, ?_⟩))
            · skip
              repeat (first | exact LeFr.nil | ((conv => whnf); first | exact True.intro | refine ⟨.rfl, ?_⟩ | refine ⟨_, _, rfl, rfl, ?_, ?_⟩))
          · skip
            conv => whnf
            refine ⟨2, rfl, Nat.le_of_ble_eq_true rfl, ?_⟩
            conv => whnf
            refine .wr (WCall.spoilB 129 (Y := List Ent × List Ent × List Ent) (fun y => lg3 (if xtE i t F G = 0 then i else 0) (if xtE i t F G = 0 then t else 0) (if (aheadN i t F x).2 = 0 then i else 0) (if (aheadN i t F x).2 = 0 then t else 0) (if compE i t F x = 0 then (cmI i t F x).1 else 0) (if compE i t F x = 0 then (cmI i t F x).2 else 0) y.1 y.2.1 y.2.2) (fun y => Wo y.1 ∧ Wo y.2.1 ∧ Wo y.2.2) hw3.S rfl rfl (fun C C2 u hs hB hS hd => bl3 hw1 hw2 hw3 hs hB hS hd) ?_)
            rintro ⟨y1, y2, y3⟩ ⟨hy1, hy2, hy3⟩
            conv => whnf
            refine ⟨(3, y1, y2, y3), ⟨by omega, hy1, hy2, hy3⟩, (by show (3 - 3 : Nat) < 3 - 2; omega), ?_⟩
            refine ⟨?_, ?_, ?_⟩
            · skip
              repeat ((conv => whnf); first | exact True.intro | refine ⟨.rfl, ?_⟩ | refine ⟨.any, ?_⟩ | refine ⟨.nil, ?_⟩ | refine ⟨.int (by first | rfl | omega | (simp only [wrs]; omega)), ?_⟩)
            · skip
              repeat (first | exact LeVs.nil | ((conv => whnf); first | exact True.intro | exact .none | exact .row rfl | refine .cells ?_ | refine ⟨_, _, rfl, .rfl, ?_⟩ | refine ⟨_, _, rfl, .any, ?_⟩ | refine ⟨_, _, rfl, .nil, ?_⟩ | refine ⟨_, _, rfl, .int (by first | rfl | omega | (simp only [wrs]; omega)), ?_⟩ | refine ⟨?_, ?_⟩))
            · skip
              repeat (first | exact LeFr.nil | ((conv => whnf); first | exact True.intro | refine ⟨.rfl, ?_⟩ | refine ⟨_, _, rfl, rfl, ?_, ?_⟩))
          · skip
            conv => whnf
            refine ⟨⟨⟨_, _, rfl⟩, rfl, ⟨_, _, rfl⟩, rfl, ⟨_, _, rfl⟩, rfl, ⟨_, _, rfl⟩, rfl, True.intro⟩, ?_⟩
            conv => whnf
            refine XT.of tabX_ok ?_
            conv => whnf
            refine .ct ?_
            conv => whnf
            refine CallG.mk (same6_W _ _ _ _ _ _ _ _ _ hWF) rfl ?_
            conv => whnf
            refine bF (notF (sameL_self _ _ _)) ?_
            conv => whnf
            refine bF (notF (sameL_self _ _ _)) ?_
            conv => whnf
            refine bF (notF (sameL_self _ _ _)) ?_
            conv => whnf
            refine .ct ?_
            conv => whnf
            refine CallG.mk (sameE6_X _ _ _ _ G G hokG.dok (by omega)) rfl ?_
            conv => whnf
            refine bF (notF (sameL_self _ _ _)) ?_
            conv => whnf
            refine bF (notF (sameL_self _ _ _)) ?_
            conv => whnf
            refine bF (notF (sameE_t rfl)) ?_
            conv => whnf
            cases hc5 : (decide (0 < (↑(List.map (entC true) G).length : Int)))
            · skip
              try simp only [bls] at hc5
              conv => whnf
              refine FinG.mk none ?_ (by rintro _ ⟨⟩)
              simp only [outs, List.length_map, List.length_append, List.length_take, List.length_drop, List.length_cons, List.length_nil, atC, entC, byC, atX, at6]
            · skip
              try simp only [bls] at hc5
              conv => whnf
              refine RegG.latea 14 [] (by kernel_rfl) ?_
              conv => whnf
              refine IdxG.map _ rfl (by first | omega | (simp only [bls] at *; omega)) ?_; intro x_ hx_ hk_
              conv => whnf
              refine ⟨rfl, ?_⟩
              conv => whnf
              refine CallG.mk (append_X _ _ _ _ F hokF hi0 hi1 _ _ (ok1 hokG (by assumption))) rfl ?_
              conv => whnf
              refine ⟨rfl, ?_⟩
              conv => whnf
              refine ⟨rfl, ?_⟩
              conv => whnf
              refine RegG.latea 13 [] (by kernel_rfl) ?_
              conv => whnf
              refine ⟨1, rfl, Nat.le_of_ble_eq_true rfl, ?_⟩
              conv => whnf
              refine ⟨by simp only [bls]; omega, ?_⟩
              conv => whnf
              refine ⟨fun c hc => by obtain ⟨y, _, rfl⟩ := List.mem_map.1 hc; rfl, ?_⟩
              conv => whnf
              simp only [← List.map_take]
              conv => whnf
              refine CallG.mk (ext6_1 _ _ _ _ F hi0 hi1 (by omega) hokF.dok _ _ (by assumption) hokG) rfl ?_
              conv => whnf
              refine ⟨rfl, ?_⟩
              conv => whnf
              refine ⟨rfl, ?_⟩
              conv => whnf
              refine .ct ?_
              conv => whnf
              refine CallG.mk (right_X _ _ _ _ F hokF hi0 hi1 ht0) rfl ?_
              conv => whnf
              cases hc6 : (mayB i t F)
              · skip
                try simp only [bls] at hc6
                conv => whnf
                refine bT (by have hm : mayB i t F = false := (by assumption); simp [xt_f hm]; done) ?_
                conv => whnf
                refine bT (by have hm : mayB i t F = false := (by assumption); simp [xt_f hm]; done) ?_
                conv => whnf
                refine bT (by have hm : mayB i t F = false := (by assumption); simp [xt_f hm]; done) ?_
                conv => whnf
                refine BinG.mk rfl rfl (eqAt6_run _ _ _ _ _ _) ?_
                conv => whnf
                refine bT (by have hm : mayB i t F = false := (by assumption); simp [xt_f hm]; done) ?_
                conv => whnf
                refine bT (by have hm : mayB i t F = false := (by assumption); simp [end_f hm]; done) ?_
                conv => whnf
                refine bT (by have hm : mayB i t F = false := (by assumption); simp [end_f hm]; done) ?_
                conv => whnf
                refine bT (by have hm : mayB i t F = false := (by assumption); simp [end_f hm]; done) ?_
                conv => whnf
                refine .ct ?_
                conv => whnf
                refine CallG.mk (same6_W _ _ true true _ _ _ _ [] (Wo.ite (Wo.one hF hG (by assumption)) _)) rfl ?_
                conv => whnf
                refine bT (by have hm : mayB i t F = false := (by assumption); simp [end_f hm]; done) ?_
                conv => whnf
                refine FinG.mk none ?_ (by rintro _ ⟨⟩)
                simp only [outs, List.length_map, List.length_append, List.length_take, List.length_drop, List.length_cons, List.length_nil, atC, entC, byC, atX, at6]
                rw [sm_extf (by assumption)]
              · skip
                try simp only [bls] at hc6
                conv => whnf
                refine bT (by have hm : mayB i t F = true := (by assumption); simp [xt_t hm]; done) ?_
                conv => whnf
                refine bT (by have hm : mayB i t F = true := (by assumption); simp [xt_t hm]; done) ?_
                conv => whnf
                refine bT (by have hm : mayB i t F = true := (by assumption); simp [xt_t hm]; done) ?_
                conv => whnf
                refine BinG.mk rfl rfl (eqAt6_run _ _ _ _ _ _) ?_
                conv => whnf
                refine bT (by have hm : mayB i t F = true := (by assumption); simp [xt_t hm]; done) ?_
                conv => whnf
                refine bT (by have hm : mayB i t F = true := (by assumption); simp [end_6 hm, at6]; done) ?_
                conv => whnf
                refine bT (by have hm : mayB i t F = true := (by assumption); simp [end_6 hm, at6]; done) ?_
                conv => whnf
                refine bT (by have hm : mayB i t F = true := (by assumption); simp [end_6 hm, at6]; done) ?_
                conv => whnf
                refine .ct ?_
                conv => whnf
                refine CallG.mk (same6_W _ _ _ _ _ _ _ _ _ (Wo.ite (Wo.one hF hG (by assumption)) _)) rfl ?_
                conv => whnf
                refine bT (by have hm : mayB i t F = true := (by assumption); simp [end_6 hm, at6]; done) ?_
                conv => whnf
                refine FinG.mk none ?_ (by rintro _ ⟨⟩)
                simp only [outs, List.length_map, List.length_append, List.length_take, List.length_drop, List.length_cons, List.length_nil, atC, entC, byC, atX, at6]
                rw [sm_ext (by assumption)]
    · skip
      try simp only [bls] at hc1
      conv => whnf
      refine ⟨by assumption, ?_⟩
      conv => whnf
      refine .ct ?_
      conv => whnf
      refine CallG.mk (right_X _ _ _ _ F hokF hi0 hi1 ht0) rfl ?_
      conv => whnf
      cases hc7 : (mayB i t F)
      · skip
        try simp only [bls] at hc7
        conv => whnf
        refine bF (by have hm : mayB i t F = false := (by assumption); simp [xt_f hm]; done) ?_
        conv => whnf
        refine bF (by have hm : mayB i t F = false := (by assumption); simp [xt_f hm]; done) ?_
        conv => whnf
        refine bF (by have hm : mayB i t F = false := (by assumption); simp [xt_f hm]; done) ?_
        conv => whnf
        refine bF (by have hm : mayB i t F = false := (by assumption); simp [xt_f hm]; done) ?_
        conv => whnf
        refine bF (by have hm : mayB i t F = false := (by assumption); simp [ah_f hm]; done) ?_
        conv => whnf
        refine bF (by have hm : mayB i t F = false := (by assumption); simp [ah_f hm]; done) ?_
        conv => whnf
        refine bF (by have hm : mayB i t F = false := (by assumption); simp [ah_f hm]; done) ?_
        conv => whnf
        refine bF (by have hm : mayB i t F = false := (by assumption); simp [ah_f hm]; done) ?_
        conv => whnf
        refine bF (by have hm : mayB i t F = false := (by assumption); simp [cm_f hm]; done) ?_
        conv => whnf
        refine bF (by have hm : mayB i t F = false := (by assumption); simp [cm_f hm]; done) ?_
        conv => whnf
        refine bF (by have hm : mayB i t F = false := (by assumption); simp [cm_f hm]; done) ?_
        conv => whnf
        refine BinG.mk rfl rfl (neAt6_run _ _ _ _ _ _) ?_
        conv => whnf
        refine bF (by have hm : mayB i t F = false := (by assumption); simp [cm_f hm]; done) ?_
        conv => whnf
        refine bF (by have hm : mayB i t F = false := (by assumption); simp [end_f hm]; done) ?_
        conv => whnf
        refine bF (by have hm : mayB i t F = false := (by assumption); simp [end_f hm]; done) ?_
        conv => whnf
        refine bF (by have hm : mayB i t F = false := (by assumption); simp [end_f hm]; done) ?_
        conv => whnf
        refine .ct ?_
        conv => whnf
        refine CallG.mk (same6_W _ _ true true _ _ _ _ [] (Wo.ite hWA _)) rfl ?_
        conv => whnf
        refine bF (by have hm : mayB i t F = false := (by assumption); simp [end_f hm]; done) ?_
        conv => whnf
        refine bF (by have hm : mayB i t F = false := (by assumption); simp [end_f hm]; done) ?_
        conv => whnf
        refine bF (notF (sm_extf (by assumption))) ?_
        conv => whnf
        refine bF (notF (sm_extf (by assumption))) ?_
        conv => whnf
        refine bF (notF (sm_extf (by assumption))) ?_
        conv => whnf
        refine .ct ?_
        conv => whnf
        refine CallG.mk (same6_W _ _ true true _ _ _ _ [] (Wo.ite hWB _)) rfl ?_
        conv => whnf
        refine bF (notF (sm_extf (by assumption))) ?_
        conv => whnf
        refine bF (notF (sm_extf (by assumption))) ?_
        conv => whnf
        refine bF (notF (sm_cutf (by assumption))) ?_
        conv => whnf
        refine bF (notF (sm_cutf (by assumption))) ?_
        conv => whnf
        refine bF (notF (sm_cutf (by assumption))) ?_
        conv => whnf
        refine .ct ?_
        conv => whnf
        refine CallG.mk (same6_W _ _ true true _ _ _ _ [] (Wo.ite hWC _)) rfl ?_
        conv => whnf
        refine bF (notF (sm_cutf (by assumption))) ?_
        conv => whnf
        refine bF (notF (sm_cutf (by assumption))) ?_
        conv => whnf
        refine bF (notF (sm_compf (by assumption))) ?_
        conv => whnf
        refine XT.clear2 [129] ?_
        conv => whnf
        refine XT.loop tabX_ok (Y := Nat × List Ent × List Ent × List Ent) [26, 129, 130, 131, 132, 133, 134, 135] (fun (k, x1, x2, x3) => [(129, lg3 (if xtE i t F G = 0 then i else 0) (if xtE i t F G = 0 then t else 0) (if (aheadN i t F x).2 = 0 then i else 0) (if (aheadN i t F x).2 = 0 then t else 0) (if compE i t F x = 0 then (cmI i t F x).1 else 0) (if compE i t F x = 0 then (cmI i t F x).2 else 0) x1 x2 x3), (130, .p (.v (.int .i64 (k : Int))) (nlv _))]) (fun (k, x1, x2, x3) => []) (fun (k, x1, x2, x3) => k ≤ 3 ∧ Wo x1 ∧ Wo x2 ∧ Wo x3) (fun (k, x1, x2, x3) => 3 - k) (0, (if xtE i t F G = 0 then F ++ G else []), (if (aheadN i t F x).2 = 0 then cutL i t F x else []), (if compE i t F x = 0 then cmL i F x else [])) ⟨by omega, hWA.ite _, hWB.ite _, hWC.ite _⟩ ?_ ?_
        · skip
          refine ⟨?_, ?_, ?_⟩
          · skip
            repeat ((conv => whnf); first | exact True.intro | refine ⟨.rfl, ?_⟩ | refine ⟨.any, ?_⟩ | refine ⟨.nil, ?_⟩ | refine ⟨.int (by first | rfl | omega | (simp only [wrs]; omega)), ?_⟩)
          · skip
            repeat (first | exact LeVs.nil | ((conv => whnf); first | exact True.intro | exact .none | exact .row rfl | refine .cells ?_ | refine ⟨_, _, rfl, .rfl, ?_⟩ | refine ⟨_, _, rfl, .any, ?_⟩ | refine ⟨_, _, rfl, .nil, ?_⟩ | refine ⟨_, _, rfl, .int (by first | rfl | omega | (simp only [wrs]; omega)), ?_⟩ | refine ⟨?_, ?_⟩))
          · skip
            repeat (first | exact LeFr.nil | ((conv => whnf); first | exact True.intro | refine ⟨.rfl, ?_⟩ | refine ⟨_, _, rfl, rfl, ?_, ?_⟩))
        · skip
          rintro ⟨k, x1, x2, x3⟩ ⟨hk, hw1, hw2, hw3⟩
          rcases (show k = 0 ∨ k = 1 ∨ k = 2 ∨ k = 3 by omega) with rfl | rfl | rfl | rfl
          · skip
            conv => whnf
            refine ⟨0, rfl, Nat.le_of_ble_eq_true rfl, ?_⟩
            conv => whnf
            refine .wr (WCall.spoilB 129 (Y := List Ent × List Ent × List Ent) (fun y => lg3 (if xtE i t F G = 0 then i else 0) (if xtE i t F G = 0 then t else 0) (if (aheadN i t F x).2 = 0 then i else 0) (if (aheadN i t F x).2 = 0 then t else 0) (if compE i t F x = 0 then (cmI i t F x).1 else 0) (if compE i t F x = 0 then (cmI i t F x).2 else 0) y.1 y.2.1 y.2.2) (fun y => Wo y.1 ∧ Wo y.2.1 ∧ Wo y.2.2) hw1.S rfl rfl (fun C C2 u hs hB hS hd => bl3 hw1 hw2 hw3 hs hB hS hd) ?_)
            rintro ⟨y1, y2, y3⟩ ⟨hy1, hy2, hy3⟩
            conv => whnf
            refine ⟨(1, y1, y2, y3), ⟨by omega, hy1, hy2, hy3⟩, (by show (3 - 1 : Nat) < 3 - 0; omega), ?_⟩
            refine ⟨?_, ?_, ?_⟩
            · skip
              repeat ((conv => whnf); first | exact True.intro | refine ⟨.rfl, ?_⟩ | refine ⟨.any, ?_⟩ | refine ⟨.nil, ?_⟩ | refine ⟨.int (by first | rfl | omega | (simp only [wrs]; omega)), ?_⟩)
            · skip
              repeat (first | exact LeVs.nil | ((conv => whnf); first | exact True.intro | exact .none | exact .row rfl | refine .cells ?_ | refine ⟨_, _, rfl, .rfl, ?_⟩ | refine ⟨_, _, rfl, .any, ?_⟩ | refine ⟨_, _, rfl, .nil, ?_⟩ | refine ⟨_, _, rfl, .int (by first | rfl | omega | (simp only [wrs]; omega)), ?_⟩ | refine ⟨?_, ?_⟩))
            · skip
              repeat (first | exact LeFr.nil | ((conv => whnf); first | exact True.intro | refine ⟨.rfl, ?_⟩ | refine ⟨_, _, rfl, rfl, ?_, ?_⟩))
          · skip
            conv => whnf
            refine ⟨1, rfl, Nat.le_of_ble_eq_true rfl, ?_⟩
            conv => whnf
            refine .wr (WCall.spoilB 129 (Y := List Ent × List Ent × List Ent) (fun y => lg3 (if xtE i t F G = 0 then i else 0) (if xtE i t F G = 0 then t else 0) (if (aheadN i t F x).2 = 0 then i else 0) (if (aheadN i t F x).2 = 0 then t else 0) (if compE i t F x = 0 then (cmI i t F x).1 else 0) (if compE i t F x = 0 then (cmI i t F x).2 else 0) y.1 y.2.1 y.2.2) (fun y => Wo y.1 ∧ Wo y.2.1 ∧ Wo y.2.2) hw2.S rfl rfl (fun C C2 u hs hB hS hd => bl3 hw1 hw2 hw3 hs hB hS hd) ?_)
            rintro ⟨y1, y2, y3⟩ ⟨hy1, hy2, hy3⟩
            conv => whnf
            refine ⟨(2, y1, y2, y3), ⟨by omega, hy1, hy2, hy3⟩, (by show (3 - 2 : Nat) < 3 - 1; omega), ?_⟩
            refine ⟨?_, ?_, ?_⟩
            · skip
              repeat ((conv => whnf); first | exact True.intro | refine ⟨.rfl, ?_⟩ | refine ⟨.any, ?_⟩ | refine ⟨.nil, ?_⟩ | refine ⟨.int (by first | rfl | omega | (simp only [wrs]; omega)), ?_⟩)
            · skip
              repeat (first | exact LeVs.nil | ((conv => whnf); first | exact True.intro | exact .none | exact .row rfl | refine .cells ?_ | refine ⟨_, _, rfl, .rfl, ?_⟩ | refine ⟨_, _, rfl, .any, ?_⟩ | refine ⟨_, _, rfl, .nil, ?_⟩ | refine ⟨_, _, rfl, .int (by first | rfl | omega | (simp only [wrs]; omega)), ?_⟩ | refine ⟨?_, ?_⟩))
            · skip
              repeat (first | exact LeFr.nil | ((conv => whnf); first | exact True.intro | refine ⟨.rfl, ?_⟩ | refine ⟨_, _, rfl, rfl, ?_, ?_⟩))
          · skip
            conv => whnf
            refine ⟨2, rfl, Nat.le_of_ble_eq_true rfl, ?_⟩
            conv => whnf
            refine .wr (WCall.spoilB 129 (Y := List Ent × List Ent × List Ent) (fun y => lg3 (if xtE i t F G = 0 then i else 0) (if xtE i t F G = 0 then t else 0) (if (aheadN i t F x).2 = 0 then i else 0) (if (aheadN i t F x).2 = 0 then t else 0) (if compE i t F x = 0 then (cmI i t F x).1 else 0) (if compE i t F x = 0 then (cmI i t F x).2 else 0) y.1 y.2.1 y.2.2) (fun y => Wo y.1 ∧ Wo y.2.1 ∧ Wo y.2.2) hw3.S rfl rfl (fun C C2 u hs hB hS hd => bl3 hw1 hw2 hw3 hs hB hS hd) ?_)
            rintro ⟨y1, y2, y3⟩ ⟨hy1, hy2, hy3⟩
            conv => whnf
            refine ⟨(3, y1, y2, y3), ⟨by omega, hy1, hy2, hy3⟩, (by show (3 - 3 : Nat) < 3 - 2; omega), ?_⟩
            refine ⟨?_, ?_, ?_⟩
            · skip
              repeat ((conv => whnf); first | exact True.intro | refine ⟨.rfl, ?_⟩ | refine ⟨.any, ?_⟩ | refine ⟨.nil, ?_⟩ | refine ⟨.int (by first | rfl | omega | (simp only [wrs]; omega)), ?_⟩)
            · skip
              repeat (first | exact LeVs.nil | ((conv => whnf); first | exact True.intro | exact .none | exact .row rfl | refine .cells ?_ | refine ⟨_, _, rfl, .rfl, ?_⟩ | refine ⟨_, _, rfl, .any, ?_⟩ | refine ⟨_, _, rfl, .nil, ?_⟩ | refine ⟨_, _, rfl, .int (by first | rfl | omega | (simp only [wrs]; omega)), ?_⟩ | refine ⟨?_, ?_⟩))
            · skip
              repeat (first | exact LeFr.nil | ((conv => whnf); first | exact True.intro | refine ⟨.rfl, ?_⟩ | refine ⟨_, _, rfl, rfl, ?_, ?_⟩))
          · skip
            conv => whnf
            refine ⟨⟨⟨_, _, rfl⟩, rfl, ⟨_, _, rfl⟩, rfl, ⟨_, _, rfl⟩, rfl, ⟨_, _, rfl⟩, rfl, True.intro⟩, ?_⟩
            conv => whnf
            refine XT.of tabX_ok ?_
            conv => whnf
            refine .ct ?_
            conv => whnf
            refine CallG.mk (same6_W _ _ _ _ _ _ _ _ _ hWF) rfl ?_
            conv => whnf
            refine bF (notF (sameL_self _ _ _)) ?_
            conv => whnf
            refine bF (notF (sameL_self _ _ _)) ?_
            conv => whnf
            refine bF (notF (sameL_self _ _ _)) ?_
            conv => whnf
            refine .ct ?_
            conv => whnf
            refine CallG.mk (sameE6_X _ _ _ _ G G hokG.dok (by omega)) rfl ?_
            conv => whnf
            refine bF (notF (sameL_self _ _ _)) ?_
            conv => whnf
            refine bF (notF (sameL_self _ _ _)) ?_
            conv => whnf
            refine bF (notF (sameE_t rfl)) ?_
            conv => whnf
            cases hc8 : (decide (0 < (↑(List.map (entC true) G).length : Int)))
            · skip
              try simp only [bls] at hc8
              conv => whnf
              refine FinG.mk none ?_ (by rintro _ ⟨⟩)
              simp only [outs, List.length_map, List.length_append, List.length_take, List.length_drop, List.length_cons, List.length_nil, atC, entC, byC, atX, at6]
            · skip
              try simp only [bls] at hc8
              conv => whnf
              refine RegG.latea 14 [] (by kernel_rfl) ?_
              conv => whnf
              refine IdxG.map _ rfl (by first | omega | (simp only [bls] at *; omega)) ?_; intro x_ hx_ hk_
              conv => whnf
              refine ⟨rfl, ?_⟩
              conv => whnf
              refine CallG.mk (append_X _ _ _ _ F hokF hi0 hi1 _ _ (ok1 hokG (by assumption))) rfl ?_
              conv => whnf
              refine ⟨rfl, ?_⟩
              conv => whnf
              refine ⟨rfl, ?_⟩
              conv => whnf
              refine RegG.latea 13 [] (by kernel_rfl) ?_
              conv => whnf
              refine ⟨1, rfl, Nat.le_of_ble_eq_true rfl, ?_⟩
              conv => whnf
              refine ⟨by simp only [bls]; omega, ?_⟩
              conv => whnf
              refine ⟨fun c hc => by obtain ⟨y, _, rfl⟩ := List.mem_map.1 hc; rfl, ?_⟩
              conv => whnf
              simp only [← List.map_take]
              conv => whnf
              refine CallG.mk (ext6_1 _ _ _ _ F hi0 hi1 (by omega) hokF.dok _ _ (by assumption) hokG) rfl ?_
              conv => whnf
              refine ⟨rfl, ?_⟩
              conv => whnf
              refine ⟨rfl, ?_⟩
              conv => whnf
              refine .ct ?_
              conv => whnf
              refine CallG.mk (right_X _ _ _ _ F hokF hi0 hi1 ht0) rfl ?_
              conv => whnf
              cases hc9 : (mayB i t F)
              · skip
                try simp only [bls] at hc9
                conv => whnf
                refine bT (by have hm : mayB i t F = false := (by assumption); simp [xt_f hm]; done) ?_
                conv => whnf
                refine bT (by have hm : mayB i t F = false := (by assumption); simp [xt_f hm]; done) ?_
                conv => whnf
                refine bT (by have hm : mayB i t F = false := (by assumption); simp [xt_f hm]; done) ?_
                conv => whnf
                refine BinG.mk rfl rfl (eqAt6_run _ _ _ _ _ _) ?_
                conv => whnf
                refine bT (by have hm : mayB i t F = false := (by assumption); simp [xt_f hm]; done) ?_
                conv => whnf
                refine bT (by have hm : mayB i t F = false := (by assumption); simp [end_f hm]; done) ?_
                conv => whnf
                refine bT (by have hm : mayB i t F = false := (by assumption); simp [end_f hm]; done) ?_
                conv => whnf
                refine bT (by have hm : mayB i t F = false := (by assumption); simp [end_f hm]; done) ?_
                conv => whnf
                refine .ct ?_
                conv => whnf
                refine CallG.mk (same6_W _ _ true true _ _ _ _ [] (Wo.ite (Wo.one hF hG (by assumption)) _)) rfl ?_
                conv => whnf
                refine bT (by have hm : mayB i t F = false := (by assumption); simp [end_f hm]; done) ?_
                conv => whnf
                refine FinG.mk none ?_ (by rintro _ ⟨⟩)
                simp only [outs, List.length_map, List.length_append, List.length_take, List.length_drop, List.length_cons, List.length_nil, atC, entC, byC, atX, at6]
                rw [sm_extf (by assumption)]
              · skip
                try simp only [bls] at hc9
                conv => whnf
                refine bT (by have hm : mayB i t F = true := (by assumption); simp [xt_t hm]; done) ?_
                conv => whnf
                refine bT (by have hm : mayB i t F = true := (by assumption); simp [xt_t hm]; done) ?_
                conv => whnf
                refine bT (by have hm : mayB i t F = true := (by assumption); simp [xt_t hm]; done) ?_
                conv => whnf
                refine BinG.mk rfl rfl (eqAt6_run _ _ _ _ _ _) ?_
                conv => whnf
                refine bT (by have hm : mayB i t F = true := (by assumption); simp [xt_t hm]; done) ?_
                conv => whnf
                refine bT (by have hm : mayB i t F = true := (by assumption); simp [end_6 hm, at6]; done) ?_
                conv => whnf
                refine bT (by have hm : mayB i t F = true := (by assumption); simp [end_6 hm, at6]; done) ?_
                conv => whnf
                refine bT (by have hm : mayB i t F = true := (by assumption); simp [end_6 hm, at6]; done) ?_
                conv => whnf
                refine .ct ?_
                conv => whnf
                refine CallG.mk (same6_W _ _ _ _ _ _ _ _ _ (Wo.ite (Wo.one hF hG (by assumption)) _)) rfl ?_
                conv => whnf
                refine bT (by have hm : mayB i t F = true := (by assumption); simp [end_6 hm, at6]; done) ?_
                conv => whnf
                refine FinG.mk none ?_ (by rintro _ ⟨⟩)
                simp only [outs, List.length_map, List.length_append, List.length_take, List.length_drop, List.length_cons, List.length_nil, atC, entC, byC, atX, at6]
                rw [sm_ext (by assumption)]
      · skip
        try simp only [bls] at hc7
        conv => whnf
        refine bF (by have hm : mayB i t F = true := (by assumption); simp [xt_t hm]; done) ?_
        conv => whnf
        refine bF (by have hm : mayB i t F = true := (by assumption); simp [xt_t hm]; done) ?_
        conv => whnf
        refine bF (by have hm : mayB i t F = true := (by assumption); simp [xt_t hm]; done) ?_
        conv => whnf
        refine bF (by have hm : mayB i t F = true := (by assumption); simp [xt_t hm]; done) ?_
        conv => whnf
        refine bF (by have hm : mayB i t F = true := (by assumption); simp [ahead_cut hi0 hx0 hm]; done) ?_
        conv => whnf
        refine bF (by have hm : mayB i t F = true := (by assumption); simp [ahead_cut hi0 hx0 hm]; done) ?_
        conv => whnf
        refine bF (by have hm : mayB i t F = true := (by assumption); simp [ahead_cut hi0 hx0 hm]; done) ?_
        conv => whnf
        refine bF (by have hm : mayB i t F = true := (by assumption); simp [ahead_cut hi0 hx0 hm]; done) ?_
        conv => whnf
        refine bF (by have hm : mayB i t F = true := (by assumption); have h0 := comp6_01 i F x; have h1 : comp6B i F x = 0 := (by omega); simp [comp_6 hi0 hm, h1]; done) ?_
        conv => whnf
        refine bF (by have hm : mayB i t F = true := (by assumption); have h0 := comp6_01 i F x; have h1 : comp6B i F x = 0 := (by omega); simp [comp_6 hi0 hm, h1]; done) ?_
        conv => whnf
        refine bF (by have hm : mayB i t F = true := (by assumption); have h0 := comp6_01 i F x; have h1 : comp6B i F x = 0 := (by omega); simp [comp_6 hi0 hm, h1]; done) ?_
        conv => whnf
        refine BinG.mk rfl rfl (neAt6_run _ _ _ _ _ _) ?_
        conv => whnf
        refine bF (by have hm : mayB i t F = true := (by assumption); have h0 := comp6_01 i F x; have h1 : comp6B i F x = 0 := (by omega); simp [comp_6 hi0 hm, h1]; done) ?_
        conv => whnf
        refine bF (by have hm : mayB i t F = true := (by assumption); simp [end_6 hm, at6]; done) ?_
        conv => whnf
        refine bF (by have hm : mayB i t F = true := (by assumption); simp [end_6 hm, at6]; done) ?_
        conv => whnf
        refine bF (by have hm : mayB i t F = true := (by assumption); simp [end_6 hm, at6]; done) ?_
        conv => whnf
        refine .ct ?_
        conv => whnf
        refine CallG.mk (same6_W _ _ _ _ _ _ _ _ _ (Wo.ite hWA _)) rfl ?_
        conv => whnf
        refine bF (by have hm : mayB i t F = true := (by assumption); simp [end_6 hm, at6]; done) ?_
        conv => whnf
        refine bF (by have hm : mayB i t F = true := (by assumption); simp [end_6 hm, at6]; done) ?_
        conv => whnf
        refine bF (notF (sm_ext (by assumption))) ?_
        conv => whnf
        refine bF (notF (sm_ext (by assumption))) ?_
        conv => whnf
        refine bF (notF (sm_ext (by assumption))) ?_
        conv => whnf
        refine .ct ?_
        conv => whnf
        refine CallG.mk (same6_W _ _ _ _ _ _ _ _ _ (Wo.ite hWB _)) rfl ?_
        conv => whnf
        refine bF (notF (sm_ext (by assumption))) ?_
        conv => whnf
        refine bF (notF (sm_ext (by assumption))) ?_
        conv => whnf
        refine bF (notF (sm_cut hi0 hx0 (by assumption))) ?_
        conv => whnf
        refine bF (notF (sm_cut hi0 hx0 (by assumption))) ?_
        conv => whnf
        refine bF (notF (sm_cut hi0 hx0 (by assumption))) ?_
        conv => whnf
        refine .ct ?_
        conv => whnf
        refine CallG.mk (same6_W _ _ _ _ _ _ _ _ _ (Wo.ite hWC _)) rfl ?_
        conv => whnf
        refine bF (notF (sm_cut hi0 hx0 (by assumption))) ?_
        conv => whnf
        refine bF (notF (sm_cut hi0 hx0 (by assumption))) ?_
        conv => whnf
        refine bF (notF (sm_comp hi0 (by assumption))) ?_
        conv => whnf
        refine XT.clear2 [129] ?_
        conv => whnf
        refine XT.loop tabX_ok (Y := Nat × List Ent × List Ent × List Ent) [26, 129, 130, 131, 132, 133, 134, 135] (fun (k, x1, x2, x3) => [(129, lg3 (if xtE i t F G = 0 then i else 0) (if xtE i t F G = 0 then t else 0) (if (aheadN i t F x).2 = 0 then i else 0) (if (aheadN i t F x).2 = 0 then t else 0) (if compE i t F x = 0 then (cmI i t F x).1 else 0) (if compE i t F x = 0 then (cmI i t F x).2 else 0) x1 x2 x3), (130, .p (.v (.int .i64 (k : Int))) (nlv _))]) (fun (k, x1, x2, x3) => []) (fun (k, x1, x2, x3) => k ≤ 3 ∧ Wo x1 ∧ Wo x2 ∧ Wo x3) (fun (k, x1, x2, x3) => 3 - k) (0, (if xtE i t F G = 0 then F ++ G else []), (if (aheadN i t F x).2 = 0 then cutL i t F x else []), (if compE i t F x = 0 then cmL i F x else [])) ⟨by omega, hWA.ite _, hWB.ite _, hWC.ite _⟩ ?_ ?_
        · skip
          refine ⟨?_, ?_, ?_⟩
          · skip
            repeat ((conv => whnf); first | exact True.intro | refine ⟨.rfl, ?_⟩ | refine ⟨.any, ?_⟩ | refine ⟨.nil, ?_⟩ | refine ⟨.int (by first | rfl | omega | (simp only [wrs]; omega)), ?_⟩)
          · skip
            repeat (first | exact LeVs.nil | ((conv => whnf); first | exact True.intro | exact .none | exact .row rfl | refine .cells ?_ | refine ⟨_, _, rfl, .rfl, ?_⟩ | refine ⟨_, _, rfl, .any, ?_⟩ | refine ⟨_, _, rfl, .nil, ?_⟩ | refine ⟨_, _, rfl, .int (by first | rfl | omega | (simp only [wrs]; omega)), ?_⟩ | refine ⟨?_, ?_⟩))
          · skip
            repeat (first | exact LeFr.nil | ((conv => whnf); first | exact True.intro | refine ⟨.rfl, ?_⟩ | refine ⟨_, _, rfl, rfl, ?_, ?_⟩))
        · skip
          rintro ⟨k, x1, x2, x3⟩ ⟨hk, hw1, hw2, hw3⟩
          rcases (show k = 0 ∨ k = 1 ∨ k = 2 ∨ k = 3 by omega) with rfl | rfl | rfl | rfl
          · skip
            conv => whnf
            refine ⟨0, rfl, Nat.le_of_ble_eq_true rfl, ?_⟩
            conv => whnf
            refine .wr (WCall.spoilB 129 (Y := List Ent × List Ent × List Ent) (fun y => lg3 (if xtE i t F G = 0 then i else 0) (if xtE i t F G = 0 then t else 0) (if (aheadN i t F x).2 = 0 then i else 0) (if (aheadN i t F x).2 = 0 then t else 0) (if compE i t F x = 0 then (cmI i t F x).1 else 0) (if compE i t F x = 0 then (cmI i t F x).2 else 0) y.1 y.2.1 y.2.2) (fun y => Wo y.1 ∧ Wo y.2.1 ∧ Wo y.2.2) hw1.S rfl rfl (fun C C2 u hs hB hS hd => bl3 hw1 hw2 hw3 hs hB hS hd) ?_)
            rintro ⟨y1, y2, y3⟩ ⟨hy1, hy2, hy3⟩
            conv => whnf
            refine ⟨(1, y1, y2, y3), ⟨by omega, hy1, hy2, hy3⟩, (by show (3 - 1 : Nat) < 3 - 0; omega), ?_⟩
            refine ⟨?_, ?_, ?_⟩
            · skip
              repeat ((conv => whnf); first | exact True.intro | refine ⟨.rfl, ?_⟩ | refine ⟨.any, ?_⟩ | refine ⟨.nil, ?_⟩ | refine ⟨.int (by first | rfl | omega | (simp only [wrs]; omega)), ?_⟩)
            · skip
              repeat (first | exact LeVs.nil | ((conv => whnf); first | exact True.intro | exact .none | exact .row rfl | refine .cells ?_ | refine ⟨_, _, rfl, .rfl, ?_⟩ | refine ⟨_, _, rfl, .any, ?_⟩ | refine ⟨_, _, rfl, .nil, ?_⟩ | refine ⟨_, _, rfl, .int (by first | rfl | omega | (simp only [wrs]; omega)), ?_⟩ | refine ⟨?_, ?_⟩))
            · skip
              repeat (first | exact LeFr.nil | ((conv => whnf); first | exact True.intro | refine ⟨.rfl, ?_⟩ | refine ⟨_, _, rfl, rfl, ?_, ?_⟩))
          · skip
            conv => whnf
            refine ⟨1, rfl, Nat.le_of_ble_eq_true rfl, ?_⟩
            conv => whnf
            refine .wr (WCall.spoilB 129 (Y := List Ent × List Ent × List Ent) (fun y => lg3 (if xtE i t F G = 0 then i else 0) (if xtE i t F G = 0 then t else 0) (if (aheadN i t F x).2 = 0 then i else 0) (if (aheadN i t F x).2 = 0 then t else 0) (if compE i t F x = 0 then (cmI i t F x).1 else 0) (if compE i t F x = 0 then (cmI i t F x).2 else 0) y.1 y.2.1 y.2.2) (fun y => Wo y.1 ∧ Wo y.2.1 ∧ Wo y.2.2) hw2.S rfl rfl (fun C C2 u hs hB hS hd => bl3 hw1 hw2 hw3 hs hB hS hd) ?_)
            rintro ⟨y1, y2, y3⟩ ⟨hy1, hy2, hy3⟩
            conv => whnf
            refine ⟨(2, y1, y2, y3), ⟨by omega, hy1, hy2, hy3⟩, (by show (3 - 2 : Nat) < 3 - 1; omega), ?_⟩
            refine ⟨?_, ?_, ?_⟩
            · skip
              repeat ((conv => whnf); first | exact True.intro | refine ⟨.rfl, ?_⟩ | refine ⟨.any, ?_⟩ | refine ⟨.nil, ?_⟩ | refine ⟨.int (by first | rfl | omega | (simp only [wrs]; omega)), ?_⟩)
            · skip
              repeat (first | exact LeVs.nil | ((conv => whnf); first | exact True.intro | exact .none | exact .row rfl | refine .cells ?_ | refine ⟨_, _, rfl, .rfl, ?_⟩ | refine ⟨_, _, rfl, .any, ?_⟩ | refine ⟨_, _, rfl, .nil, ?_⟩ | refine ⟨_, _, rfl, .int (by first | rfl | omega | (simp only [wrs]; omega)), ?_⟩ | refine ⟨?_, ?_⟩))
            · skip
              repeat (first | exact LeFr.nil | ((conv => whnf); first | exact True.intro | refine ⟨.rfl, ?_⟩ | refine ⟨_, _, rfl, rfl, ?_, ?_⟩))
          · skip
            conv => whnf
            refine ⟨2, rfl, Nat.le_of_ble_eq_true rfl, ?_⟩
            conv => whnf
            refine .wr (WCall.spoilB 129 (Y := List Ent × List Ent × List Ent) (fun y => lg3 (if xtE i t F G = 0 then i else 0) (if xtE i t F G = 0 then t else 0) (if (aheadN i t F x).2 = 0 then i else 0) (if (aheadN i t F x).2 = 0 then t else 0) (if compE i t F x = 0 then (cmI i t F x).1 else 0) (if compE i t F x = 0 then (cmI i t F x).2 else 0) y.1 y.2.1 y.2.2) (fun y => Wo y.1 ∧ Wo y.2.1 ∧ Wo y.2.2) hw3.S rfl rfl (fun C C2 u hs hB hS hd => bl3 hw1 hw2 hw3 hs hB hS hd) ?_)
            rintro ⟨y1, y2, y3⟩ ⟨hy1, hy2, hy3⟩
            conv => whnf
            refine ⟨(3, y1, y2, y3), ⟨by omega, hy1, hy2, hy3⟩, (by show (3 - 3 : Nat) < 3 - 2; omega), ?_⟩
            refine ⟨?_, ?_, ?_⟩
            · skip
              repeat ((conv => whnf); first | exact True.intro | refine ⟨.rfl, ?_⟩ | refine ⟨.any, ?_⟩ | refine ⟨.nil, ?_⟩ | refine ⟨.int (by first | rfl | omega | (simp only [wrs]; omega)), ?_⟩)
            · skip
              repeat (first | exact LeVs.nil | ((conv => whnf); first | exact True.intro | exact .none | exact .row rfl | refine .cells ?_ | refine ⟨_, _, rfl, .rfl, ?_⟩ | refine ⟨_, _, rfl, .any, ?_⟩ | refine ⟨_, _, rfl, .nil, ?_⟩ | refine ⟨_, _, rfl, .int (by first | rfl | omega | (simp only [wrs]; omega)), ?_⟩ | refine ⟨?_, ?_⟩))
            · skip
              repeat (first | exact LeFr.nil | ((conv => whnf); first | exact True.intro | refine ⟨.rfl, ?_⟩ | refine ⟨_, _, rfl, rfl, ?_, ?_⟩))
          · skip
            conv => whnf
            refine ⟨⟨⟨_, _, rfl⟩, rfl, ⟨_, _, rfl⟩, rfl, ⟨_, _, rfl⟩, rfl, ⟨_, _, rfl⟩, rfl, True.intro⟩, ?_⟩
            conv => whnf
            refine XT.of tabX_ok ?_
            conv => whnf
            refine .ct ?_
            conv => whnf
            refine CallG.mk (same6_W _ _ _ _ _ _ _ _ _ hWF) rfl ?_
            conv => whnf
            refine bF (notF (sameL_self _ _ _)) ?_
            conv => whnf
            refine bF (notF (sameL_self _ _ _)) ?_
            conv => whnf
            refine bF (notF (sameL_self _ _ _)) ?_
            conv => whnf
            refine .ct ?_
            conv => whnf
            refine CallG.mk (sameE6_X _ _ _ _ G G hokG.dok (by omega)) rfl ?_
            conv => whnf
            refine bF (notF (sameL_self _ _ _)) ?_
            conv => whnf
            refine bF (notF (sameL_self _ _ _)) ?_
            conv => whnf
            refine bF (notF (sameE_t rfl)) ?_
            conv => whnf
            cases hc10 : (decide (0 < (↑(List.map (entC true) G).length : Int)))
            · skip
              try simp only [bls] at hc10
              conv => whnf
              refine FinG.mk none ?_ (by rintro _ ⟨⟩)
              simp only [outs, List.length_map, List.length_append, List.length_take, List.length_drop, List.length_cons, List.length_nil, atC, entC, byC, atX, at6]
            · skip
              try simp only [bls] at hc10
              conv => whnf
              refine RegG.latea 14 [] (by kernel_rfl) ?_
              conv => whnf
              refine IdxG.map _ rfl (by first | omega | (simp only [bls] at *; omega)) ?_; intro x_ hx_ hk_
              conv => whnf
              refine ⟨rfl, ?_⟩
              conv => whnf
              refine CallG.mk (append_X _ _ _ _ F hokF hi0 hi1 _ _ (ok1 hokG (by assumption))) rfl ?_
              conv => whnf
              refine ⟨rfl, ?_⟩
              conv => whnf
              refine ⟨rfl, ?_⟩
              conv => whnf
              refine RegG.latea 13 [] (by kernel_rfl) ?_
              conv => whnf
              refine ⟨1, rfl, Nat.le_of_ble_eq_true rfl, ?_⟩
              conv => whnf
              refine ⟨by simp only [bls]; omega, ?_⟩
              conv => whnf
              refine ⟨fun c hc => by obtain ⟨y, _, rfl⟩ := List.mem_map.1 hc; rfl, ?_⟩
              conv => whnf
              simp only [← List.map_take]
              conv => whnf
              refine CallG.mk (ext6_1 _ _ _ _ F hi0 hi1 (by omega) hokF.dok _ _ (by assumption) hokG) rfl ?_
              conv => whnf
              refine ⟨rfl, ?_⟩
              conv => whnf
              refine ⟨rfl, ?_⟩
              conv => whnf
              refine .ct ?_
              conv => whnf
              refine CallG.mk (right_X _ _ _ _ F hokF hi0 hi1 ht0) rfl ?_
              conv => whnf
              cases hc11 : (mayB i t F)
              · skip
                try simp only [bls] at hc11
                conv => whnf
                refine bT (by have hm : mayB i t F = false := (by assumption); simp [xt_f hm]; done) ?_
                conv => whnf
                refine bT (by have hm : mayB i t F = false := (by assumption); simp [xt_f hm]; done) ?_
                conv => whnf
                refine bT (by have hm : mayB i t F = false := (by assumption); simp [xt_f hm]; done) ?_
                conv => whnf
                refine BinG.mk rfl rfl (eqAt6_run _ _ _ _ _ _) ?_
                conv => whnf
                refine bT (by have hm : mayB i t F = false := (by assumption); simp [xt_f hm]; done) ?_
                conv => whnf
                refine bT (by have hm : mayB i t F = false := (by assumption); simp [end_f hm]; done) ?_
                conv => whnf
                refine bT (by have hm : mayB i t F = false := (by assumption); simp [end_f hm]; done) ?_
                conv => whnf
                refine bT (by have hm : mayB i t F = false := (by assumption); simp [end_f hm]; done) ?_
                conv => whnf
                refine .ct ?_
                conv => whnf
                refine CallG.mk (same6_W _ _ true true _ _ _ _ [] (Wo.ite (Wo.one hF hG (by assumption)) _)) rfl ?_
                conv => whnf
                refine bT (by have hm : mayB i t F = false := (by assumption); simp [end_f hm]; done) ?_
                conv => whnf
                refine FinG.mk none ?_ (by rintro _ ⟨⟩)
                simp only [outs, List.length_map, List.length_append, List.length_take, List.length_drop, List.length_cons, List.length_nil, atC, entC, byC, atX, at6]
                rw [sm_extf (by assumption)]
              · skip
                try simp only [bls] at hc11
                conv => whnf
                refine bT (by have hm : mayB i t F = true := (by assumption); simp [xt_t hm]; done) ?_
                conv => whnf
                refine bT (by have hm : mayB i t F = true := (by assumption); simp [xt_t hm]; done) ?_
                conv => whnf
                refine bT (by have hm : mayB i t F = true := (by assumption); simp [xt_t hm]; done) ?_
                conv => whnf
                refine BinG.mk rfl rfl (eqAt6_run _ _ _ _ _ _) ?_
                conv => whnf
                refine bT (by have hm : mayB i t F = true := (by assumption); simp [xt_t hm]; done) ?_
                conv => whnf
                refine bT (by have hm : mayB i t F = true := (by assumption); simp [end_6 hm, at6]; done) ?_
                conv => whnf
                refine bT (by have hm : mayB i t F = true := (by assumption); simp [end_6 hm, at6]; done) ?_
                conv => whnf
                refine bT (by have hm : mayB i t F = true := (by assumption); simp [end_6 hm, at6]; done) ?_
                conv => whnf
                refine .ct ?_
                conv => whnf
                refine CallG.mk (same6_W _ _ _ _ _ _ _ _ _ (Wo.ite (Wo.one hF hG (by assumption)) _)) rfl ?_
                conv => whnf
                refine bT (by have hm : mayB i t F = true := (by assumption); simp [end_6 hm, at6]; done) ?_
                conv => whnf
                refine FinG.mk none ?_ (by rintro _ ⟨⟩)
                simp only [outs, List.length_map, List.length_append, List.length_take, List.length_drop, List.length_cons, List.length_nil, atC, entC, byC, atX, at6]
                rw [sm_ext (by assumption)]
end Go.Proofs.Ytpckkajodpiiaaa
