/- Logs that take from one another: the walk. No condition. -/
import Derived.Test.YtpckkajodpiiaaaU5
import Derived.Test.YtpckkajodpiiaaaU6
import Derived.Test.YtpckkajodpiiaaaU7
import Derived.Test.YtpckkajodpiiaaaLM
import Derived.Test.YtpckkajodpiiaaaTE6
import Derived.Test.YtpckkajodpiiaaaTE8
namespace Go.Proofs.Ytpckkajodpiiaaa
open Go.RowKit
set_option linter.unusedVariables false
set_option linter.unusedSimpArgs false
set_option maxRecDepth 20000
theorem nl_byc (l : List Int) : NlLL (l.map byC) := .map fun x _ => .cons (nlv _) .nil
theorem nl_ents (b : Bool) (l : List Ent) : NlLL (l.map (entC b)) := .map fun e _ => .cons (nlv _) (.cons (nlv _) (.cons (nl_byc _).sl .nil))
def lgC (i t : Int) (x : List Ent) : List XV := [.p (.v (.int .u64 i)) (nlv _), .p (.v (.int .u64 t)) (nlv _), .p (.sl true (x.map (entC true))) (nl_ents _ _).sl]
def atX (p : Int × Int) : XV := .ag [.p (.v (.int .u64 p.1)) (nlv _), .p (.v (.int .u64 p.2)) (nlv _)]
/-- A log that is handed out, or none. -/
def lgX (e i t : Int) (x : List Ent) : XV := .ag (if e = 0 then lgC i t x else lgC 0 0 [])
theorem shr_lgE (e i t : Int) (x : List Ent) : shr (logE e i t x) = (lgX e i t x).den ∧ ShO (logE e i t x) := by
  unfold logE lgX
  split <;> exact ⟨rfl, trivial, trivial, fr_ents _, trivial⟩
theorem wakes_X : XMeets Try.prog 10 [] (.p (.v (.bool true)) (nlv _)) := ⟨by kernel_rfl, wakes_T⟩
theorem term_X (b b' : Bool) {m i t x : Int} {es : List Ent} (h : Lg m i t es) (hm : m < 1000) : XMeets Try.prog 32 [logT i t (.sl b (es.map (entC b'))), .v (.int .u64 x)] (.tu [.p (.v (.int .u64 (termN i t es x).1)) (nlv _), .p (.v (.bool (termN i t es x).2)) (nlv _)]) :=
  ⟨by kernel_rfl, term_T b b' i t es h.ok.w h.ok.n9 h.i0 (by have := h.len; omega) x⟩
theorem has_X (b b' : Bool) {m i t : Int} {es : List Ent} (h : Lg m i t es) (hm : m < 1000) (x y : Int) : XMeets Try.prog 39 [logT i t (.sl b (es.map (entC b'))), .agg [.v (.int .u64 x), .v (.int .u64 y)]] (.p (.v (.bool (hasB i t es x y))) (nlv _)) := by
  have h1 := hasx_T b b' i t es h.ok.w h.ok.n9 h.i0 (by have := h.len; omega) (x, y)
  rw [h.may, Bool.true_and] at h1
  exact ⟨by kernel_rfl, h1⟩
theorem may_X (b b' : Bool) {m i t : Int} {es : List Ent} (h : Lg m i t es) (hm : m < 1000) : XMeets Try.prog 43 [logT i t (.sl b (es.map (entC b')))] (.p (.v (.bool true)) (nlv _)) := by
  have h1 := may6_T b b' i t es h.ok h.i0 (by have := h.len; omega) h.t0 (by have := h.tt; omega)
  rw [h.may] at h1
  exact ⟨by kernel_rfl, h1⟩
theorem app_X (b b' c : Bool) {m i t : Int} {es : List Ent} (h : Lg m i t es) (hm0 : 0 ≤ m) (hm : m < 1000) (d m1 : Int) (hm1 : m1 = m + 1) : XMeets Try.prog 23 [logT i t (.sl b (es.map (entC b'))), .agg [.v (.int .u64 m1), .v (.int .i64 2), .sl c [[.v (.int .u8 d)]]]]
    (.tu [lgX (xtE i t es [entA m d]) i t (es ++ [entA m d]), atX (endN (xtE i t es [entA m d]) i t (es ++ [entA m d])), .p (.v (.int .i64 (xtE i t es [entA m d]))) (nlv _)]) := by
  subst hm1
  have h1 := append_T b b' i t es h.ok h.i0 (by have := h.len; omega) c (entA m d) ⟨fun e he => by rw [List.mem_singleton] at he; subst he; simp only [entA]; omega, by simp, fun e he => by rw [List.mem_singleton] at he; subst he; simp [entA]⟩
  obtain ⟨e1, e2⟩ := shr_lgE (xtE i t es [entA m d]) i t (es ++ [entA m d])
  exact .of_shr (by kernel_rfl) h1 ⟨e2, ⟨trivial, trivial, trivial⟩, trivial, trivial⟩ (by simp only [shr, shrL, e1]; rfl)
theorem take_X (b b' b2 b2' : Bool) {m i t : Int} {es : List Ent} (h : Lg m i t es) (hm : m < 1000) {more : List Ent} (hk : okE more) (p : Int × Int) (hp0 : 0 ≤ p.1) (hp1 : p.1 < 18446744073709551616) : XMeets Try.prog 26 [logT i t (.sl b (es.map (entC b'))), .agg [.v (.int .u64 p.1), .v (.int .u64 p.2)], .sl b2 (more.map (entC b2'))]
    (.tu [lgX (takeE i t es p more) i t (takeL i t es p more), .p (.v (.int .u64 (takeA i t es p more))) (nlv _), .p (.v (.int .i64 (takeE i t es p more))) (nlv _)]) := by
  have h1 := take_T b b' i t es h.ok h.i0 (by have := h.len; omega) b2 b2' more hk p hp0 hp1
  obtain ⟨e1, e2⟩ := shr_lgE (takeE i t es p more) i t (takeL i t es p more)
  exact .of_shr (by kernel_rfl) h1 ⟨e2, trivial, trivial, trivial⟩ (by simp only [shr, shrL, e1]; rfl)
theorem from_X (b b' : Bool) {m i t : Int} {es : List Ent} (h : Lg m i t es) (hm : m < 1000) (x n : Int) (hx0 : 0 ≤ x) (hx1 : x < 18446744073709551616) (hn : n < 9223372036854775808) : XMeets Try.prog 34 [logT i t (.sl b (es.map (entC b'))), .v (.int .u64 x), .v (.int .i64 n)]
    (.tu [atX (fromA i t es x n), .p (.sl true ((fromL i t es x n).map (entC true))) (nl_ents _ _).sl, .p (.v (.int .i64 (fromE i t es x n))) (nlv _)]) := by
  have h1 := from_T b b' i t es h.ok h.i0 (by have := h.len; omega) x hx0 hx1 n hn
  exact .of_shr (by kernel_rfl) h1 ⟨⟨trivial, trivial, trivial⟩, fr_ents _, trivial, trivial⟩ rfl
theorem comp_X (b b' : Bool) {m i t x T : Int} {es : List Ent} (h : Lg m i t es) (hm : m < 1000) {q : Nat} (hq : q ≤ es.length) (hx : x = i + q) (hT : tm t es q = T) : XMeets Try.prog 15 [logT i t (.sl b (es.map (entC b'))), .v (.int .u64 x)]
    (.tu [.ag (lgC (i + q) T (es.drop q)), .p (.v (.int .i64 0)) (nlv _)]) := by
  have hl := h.len
  have hi := h.i0
  have h1 := comp_T b b' i t es h.ok h.i0 (by omega) x (by omega) (by omega)
  rcases comp_cases h.i0 h.may x with ⟨k, g1, g2, g3, g4, _⟩ | ⟨g1, g2⟩
  · obtain rfl : k = q := by omega
    rw [g3, g4, Int.toNat_natCast, spot_in h.i0 h.may hq, hT] at h1
    obtain ⟨e1, e2⟩ := shr_lgE 0 (i + k) T (es.drop k)
    exact .of_shr (by kernel_rfl) h1 ⟨e2, trivial, trivial⟩ (by simp only [shr, shrL, e1]; rfl)
  · rw [hx, term_at hi h.may hq] at g2; exact absurd (congrArg Prod.snd g2) (by simp)
theorem mt_from {m i t : Int} {b : List Ent} (h : Lg m i t b) (hm : m < 1000) {k : Nat} {x : Int} (hx : x = i + (k : Int) + 1) : (k < b.length ∧ fromE i t b x 1 = 0 ∧ ∃ f, b[k]? = some f ∧ fromL i t b x 1 = [f]) ∨ (b.length ≤ k ∧ fromL i t b x 1 = [] ∧ (fromE i t b x 1 = 0 ∨ fromE i t b x 1 = 4)) := by
  rw [show x = i + 1 + k by omega]
  rcases from_is h hm k (n := 1) (by omega) with ⟨h1, h2, h3, h4⟩ | ⟨h1, h2, h3⟩
  · rcases Nat.lt_or_ge k b.length with h5 | h5
    · refine .inl ⟨h5, h2, b[k], List.getElem?_eq_getElem h5, ?_⟩
      rw [h4, List.drop_eq_getElem_cons h5]; rfl
    · refine .inr ⟨h5, ?_, .inl h2⟩
      rw [h4, List.drop_eq_nil_of_le h5]; rfl
  · exact .inr ⟨by omega, h3, .inr h2⟩
/-- What is known of two logs behind a spot that both have. -/
def Sm (a b : List Ent) (k : Nat) : Prop := ∃ k', k ≤ k' ∧ k' ≤ b.length ∧ a.take k' = b.take k'
theorem Sm.at_ {a b : List Ent} {k : Nat} {e f : Ent} (h : Sm a b (k + 1)) (h1 : a[k]? = some e) (h2 : b[k]? = some f) : e = f := by
  obtain ⟨k', h3, h4, h5⟩ := h
  have : (a.take k')[k]? = (b.take k')[k]? := by rw [h5]
  rw [List.getElem?_take_of_lt (by omega), List.getElem?_take_of_lt (by omega), h1, h2] at this
  exact Option.some.inj this
theorem Sm.le {a b : List Ent} {k : Nat} (h : Sm a b (k + 1)) : k < b.length := by
  obtain ⟨k', h3, h4, h5⟩ := h; omega
theorem Sm.down {a b : List Ent} {k : Nat} (h : Sm a b (k + 1)) : Sm a b k := by
  obtain ⟨k', h3, h4, h5⟩ := h; exact ⟨k', by omega, h4, h5⟩
theorem Mt.sm {a b : List Ent} {k : Nat} {e f : Ent} (h : Mt a b) (h1 : a[k]? = some e) (h2 : b[k]? = some f) (hT : e.T = f.T) : Sm a b (k + 1) := ⟨k + 1, Nat.le_refl _, (List.getElem?_eq_some_iff.1 h2).1, h k e f h1 h2 hT⟩
theorem mt_all {m i t : Int} {a b : List Ent} (hb : Lg m i t b) (hm : m < 1000) (hab : Mt a b) {k : Nat} {s : Bool} (hk : k ≤ a.length) (hs : s = true → Sm a b (k + 1)) : k = 0 ∨
    (∃ k' e, k = k' + 1 ∧ s = true ∧ a[k']? = some e ∧ fromE i t b (i + (k' : Int) + 1) 1 = 0 ∧ fromL i t b (i + (k' : Int) + 1) 1 = [e] ∧ Sm a b (k' + 1)) ∨
    (∃ k' e, k = k' + 1 ∧ s = false ∧ a[k']? = some e ∧ fromE i t b (i + (k' : Int) + 1) 1 = 0 ∧ fromL i t b (i + (k' : Int) + 1) 1 = [e] ∧ Sm a b (k' + 1)) ∨
    (∃ k' e f, k = k' + 1 ∧ s = false ∧ a[k']? = some e ∧ fromE i t b (i + (k' : Int) + 1) 1 = 0 ∧ fromL i t b (i + (k' : Int) + 1) 1 = [f] ∧ ¬ e.T = f.T) ∨
    (∃ k' e, k = k' + 1 ∧ s = false ∧ a[k']? = some e ∧ fromL i t b (i + (k' : Int) + 1) 1 = [] ∧ (fromE i t b (i + (k' : Int) + 1) 1 = 0 ∨ fromE i t b (i + (k' : Int) + 1) 1 = 4)) := by
  rcases k with _ | k
  · exact .inl rfl
  have he : a[k]? = some a[k] := List.getElem?_eq_getElem (by omega)
  generalize a[k] = e at he
  rcases mt_from hb hm (k := k) rfl with ⟨h1, h2, f, h3, h4⟩ | ⟨h1, h2, h3⟩
  · cases s
    · by_cases hT : e.T = f.T
      · have h5 := hab.sm he h3 hT
        obtain rfl := Sm.at_ h5 he h3
        exact .inr (.inr (.inl ⟨k, e, rfl, rfl, he, h2, h4, h5⟩))
      · exact .inr (.inr (.inr (.inl ⟨k, e, f, rfl, rfl, he, h2, h4, hT⟩)))
    · have h5 := (hs rfl).down
      obtain rfl := Sm.at_ h5 he h3
      exact .inr (.inl ⟨k, e, rfl, rfl, he, h2, h4, h5⟩)
  · cases s
    · exact .inr (.inr (.inr (.inr ⟨k, e, rfl, rfl, he, h2, h3⟩)))
    · have := (hs rfl).down.le; omega
theorem fromF_X (b b' : Bool) {m i t : Int} {es : List Ent} (h : Lg m i t es) (hm : m < 1000) {x : Int} {k : Nat} {f : Ent} (hk : k < 1000) (hE : fromE i t es (i + (k : Int) + 1) 1 = 0) (hL : fromL i t es (i + (k : Int) + 1) 1 = [f]) (hx : x = i + (k : Int) + 1) : XMeets Try.prog 34 [logT i t (.sl b (es.map (entC b'))), .v (.int .u64 x), .v (.int .i64 1)]
    (.tu [atX (fromA i t es x 1), .p (.sl true [entC true f]) (NlLL.cons (.cons (nlv _) (.cons (nlv _) (.cons (nl_byc _).sl .nil))) .nil).sl, .p (.v (.int .i64 0)) (nlv _)]) := by
  subst hx
  have hl := h.len
  have hi := h.i0
  have h1 := from_X b b' h hm (i + (k : Int) + 1) 1 (by omega) (by omega) (by omega)
  refine ⟨h1.1, ?_⟩
  have h2 := h1.2
  simp only [XV.den, XV.denL, hL, hE] at h2 ⊢
  exact h2
theorem fromN_X (b b' : Bool) {m i t : Int} {es : List Ent} (h : Lg m i t es) (hm : m < 1000) {x : Int} {k : Nat} (hk : k < 1000) (hL : fromL i t es (i + (k : Int) + 1) 1 = []) (hx : x = i + (k : Int) + 1) : XMeets Try.prog 34 [logT i t (.sl b (es.map (entC b'))), .v (.int .u64 x), .v (.int .i64 1)]
    (.tu [atX (fromA i t es x 1), .p (.sl true []) NlLL.nil.sl, .p (.v (.int .i64 (fromE i t es (i + (k : Int) + 1) 1))) (nlv _)]) := by
  subst hx
  have hl := h.len
  have hi := h.i0
  have h1 := from_X b b' h hm (i + (k : Int) + 1) 1 (by omega) (by omega) (by omega)
  refine ⟨h1.1, ?_⟩
  have h2 := h1.2
  simp only [XV.den, XV.denL, hL] at h2 ⊢
  exact h2
set_option maxRecDepth 20000 in
theorem matches_X (c c' d d' : Bool) {m i t : Int} {a b : List Ent} (ha : Lg m i t a) (hb : Lg m i t b) (hab : Mt a b) (hm : m < 1000) : XMeets Try.prog 44 [logT i t (.sl c (a.map (entC c'))), logT i t (.sl d (b.map (entC d')))] (.p (.v (.bool true)) (nlv _)) := by
  refine XMeets.of_X tabX_ok (avs := [.ag [.p (.v (.int .u64 i)) (nlv _), .p (.v (.int .u64 t)) (nlv _), .p (.sl false (a.map (entC false))) (nl_ents _ _).sl], .ag [.p (.v (.int .u64 i)) (nlv _), .p (.v (.int .u64 t)) (nlv _), .p (.sl false (b.map (entC false))) (nl_ents _ _).sl]]) [(0, .ag [.p (.v (.int .u64 i)) (nlv _), .p (.v (.int .u64 t)) (nlv _), .p (.sl false (a.map (entC false))) (nl_ents _ _).sl]), (1, .ag [.p (.v (.int .u64 i)) (nlv _), .p (.v (.int .u64 t)) (nlv _), .p (.sl false (b.map (entC false))) (nl_ents _ _).sl])] (by kernel_rfl) Try.func44 rfl (by simp [PuL, Pu, logT, pu_ents, pu_bytes]) (by simp only [untagL, untag, logT, untag_ents]; rfl) rfl rfl ?_
  intro B w0
  have hla := ha.len
  have hlb := hb.len
  have hi0 := ha.i0
  conv => whnf
  refine XT.loop tabX_ok (Y := Nat × Bool) [4, 5, 6, 7, 8, 9, 10, 11, 12, 16, 17, 18, 19, 20, 21, 22, 23, 24, 25, 26, 27, 28, 29, 30, 31, 32, 33, 34, 35, 36, 37, 38, 39, 40, 41, 42, 43, 44, 45, 46, 47, 48, 49, 50, 51, 52, 53, 54, 55, 56, 57, 58, 59, 60, 61, 62, 63, 64, 65, 66, 67, 68, 69, 70, 71, 72, 73, 74, 75, 76, 77, 78, 79, 80, 81, 82, 83, 84, 85, 86, 87, 88] (fun (k, s) => [(6, .p (.v (.int .i64 (k : Int))) (nlv _)), (5, .p (.v (.bool s)) (nlv _))]) (fun (k, s) => []) (fun (k, s) => k ≤ a.length ∧ (s = true → Sm a b (k + 1))) (fun (k, s) => k) (a.length, false) ⟨Nat.le_refl _, fun h => by cases h⟩ ?_ ?_
  · skip
    refine ⟨?_, ?_, ?_⟩
    · skip
      repeat ((conv => whnf); first | exact True.intro | refine ⟨.rfl, ?_⟩ | refine ⟨.any, ?_⟩ | refine ⟨.nil, ?_⟩ | refine ⟨.int (by first | rfl | omega | (simp only [wrs]; omega)), ?_⟩ | refine ⟨.int (by simp only [List.length_map]), ?_⟩)
    · skip
      repeat (first | exact LeVs.nil | ((conv => whnf); first | exact True.intro | exact .none | exact .row rfl | refine .cells ?_ | refine ⟨_, _, rfl, .rfl, ?_⟩ | refine ⟨_, _, rfl, .any, ?_⟩ | refine ⟨_, _, rfl, .nil, ?_⟩ | refine ⟨_, _, rfl, .int (by first | rfl | omega | (simp only [wrs]; omega)), ?_⟩ | refine ⟨_, _, rfl, .int (by simp only [List.length_map]), ?_⟩ | refine ⟨?_, ?_⟩))
    · skip
      repeat (first | exact LeFr.nil | ((conv => whnf); first | exact True.intro | refine ⟨.rfl, ?_⟩ | refine ⟨_, _, rfl, rfl, ?_, ?_⟩))
  · skip
    rintro ⟨k, s⟩ ⟨hk, hs⟩
    rcases mt_all hb hm hab hk hs with rfl | ⟨k, e, rfl, rfl, he, hE, hL, hS⟩ | ⟨k, e, rfl, rfl, he, hE, hL, hS⟩ | ⟨k, e, f, rfl, rfl, he, hE, hL, hT⟩ | ⟨k, e, rfl, rfl, he, hL, hE⟩
    · skip
      conv => whnf
      refine FinG.mk none ?_ (by rintro _ ⟨⟩)
      simp only [outs, List.length_map, List.length_append, List.length_take, List.length_drop, List.length_cons, List.length_nil, lgX, lgC, atX, List.map_map]
    · skip
      conv => whnf
      rw [show (decide (0 < (↑(k + 1) : Int))) = true from decide_eq_true (by omega)]
      conv => whnf
      rw [show IntKind.i64.wrap ((↑(k + 1) : Int) - 1) = ((↑(k + 1) : Int) - 1) from wz.1 _ (by omega) (by omega)]
      refine IdxG.mk (j := k) (c := entC false e) (by rw [List.getElem?_map, he]; rfl) (by omega) ?_
      conv => whnf
      refine ⟨rfl, ?_⟩
      conv => whnf
      refine .ct ?_
      conv => whnf
      refine CallG.mk (fromF_X _ _ hb hm (by omega) hE hL (by simp (disch := omega) only [wz]; omega)) rfl ?_
      conv => whnf
      refine IdxG.mk rfl rfl ?_
      conv => whnf
      refine ⟨rfl, ?_⟩
      conv => whnf
      rw [show (!decide (e.T = e.T)) = false from by simp [List.length_map, List.length_append, List.length_take, List.length_drop, List.length_cons, List.length_nil, lgX, lgC, atX, List.map_map]; done]
      conv => whnf
      rw [show (!decide (e.K = e.K)) = false from by simp [List.length_map, List.length_append, List.length_take, List.length_drop, List.length_cons, List.length_nil, lgX, lgC, atX, List.map_map]; done]
      conv => whnf
      refine ⟨_, rfl, ?_⟩
      conv => whnf
      refine ⟨_, rfl, ?_⟩
      conv => whnf
      cases hc1 : (bsEq (strOfNums e.D) (strOfNums e.D))
      · skip
        try simp only [bls] at hc1
        conv => whnf
        refine FinG.mk none ?_ (by rintro _ ⟨⟩)
        simp only [outs, List.length_map, List.length_append, List.length_take, List.length_drop, List.length_cons, List.length_nil, lgX, lgC, atX, List.map_map]
        and_intros <;> first | rfl | (simp; done) | omega | (simp_all; done) | (simp_all; omega)
      · skip
        try simp only [bls] at hc1
        conv => whnf
        refine ⟨(k, true), ⟨by omega, fun _ => hS⟩, Nat.lt_succ_self _, ?_⟩
        refine ⟨?_, ?_, ?_⟩
        · skip
          repeat ((conv => whnf); first | exact True.intro | refine ⟨.rfl, ?_⟩ | refine ⟨.any, ?_⟩ | refine ⟨.nil, ?_⟩ | refine ⟨.int (by first | rfl | omega | (simp only [wrs]; omega)), ?_⟩ | refine ⟨.int (by simp only [List.length_map]), ?_⟩)
        · skip
          repeat (first | exact LeVs.nil | ((conv => whnf); first | exact True.intro | exact .none | exact .row rfl | refine .cells ?_ | refine ⟨_, _, rfl, .rfl, ?_⟩ | refine ⟨_, _, rfl, .any, ?_⟩ | refine ⟨_, _, rfl, .nil, ?_⟩ | refine ⟨_, _, rfl, .int (by first | rfl | omega | (simp only [wrs]; omega)), ?_⟩ | refine ⟨_, _, rfl, .int (by simp only [List.length_map]), ?_⟩ | refine ⟨?_, ?_⟩))
        · skip
          repeat (first | exact LeFr.nil | ((conv => whnf); first | exact True.intro | refine ⟨.rfl, ?_⟩ | refine ⟨_, _, rfl, rfl, ?_, ?_⟩))
    · skip
      conv => whnf
      rw [show (decide (0 < (↑(k + 1) : Int))) = true from decide_eq_true (by omega)]
      conv => whnf
      rw [show IntKind.i64.wrap ((↑(k + 1) : Int) - 1) = ((↑(k + 1) : Int) - 1) from wz.1 _ (by omega) (by omega)]
      refine IdxG.mk (j := k) (c := entC false e) (by rw [List.getElem?_map, he]; rfl) (by omega) ?_
      conv => whnf
      refine ⟨rfl, ?_⟩
      conv => whnf
      refine .ct ?_
      conv => whnf
      refine CallG.mk (fromF_X _ _ hb hm (by omega) hE hL (by simp (disch := omega) only [wz]; omega)) rfl ?_
      conv => whnf
      refine IdxG.mk rfl rfl ?_
      conv => whnf
      refine ⟨rfl, ?_⟩
      conv => whnf
      rw [show (decide (e.T = e.T)) = true from decide_eq_true (by omega)]
      conv => whnf
      rw [show (!decide (e.T = e.T)) = false from by simp [List.length_map, List.length_append, List.length_take, List.length_drop, List.length_cons, List.length_nil, lgX, lgC, atX, List.map_map]; done]
      conv => whnf
      rw [show (!decide (e.K = e.K)) = false from by simp [List.length_map, List.length_append, List.length_take, List.length_drop, List.length_cons, List.length_nil, lgX, lgC, atX, List.map_map]; done]
      conv => whnf
      refine ⟨_, rfl, ?_⟩
      conv => whnf
      refine ⟨_, rfl, ?_⟩
      conv => whnf
      cases hc2 : (bsEq (strOfNums e.D) (strOfNums e.D))
      · skip
        try simp only [bls] at hc2
        conv => whnf
        refine FinG.mk none ?_ (by rintro _ ⟨⟩)
        simp only [outs, List.length_map, List.length_append, List.length_take, List.length_drop, List.length_cons, List.length_nil, lgX, lgC, atX, List.map_map]
        and_intros <;> first | rfl | (simp; done) | omega | (simp_all; done) | (simp_all; omega)
      · skip
        try simp only [bls] at hc2
        conv => whnf
        refine ⟨(k, true), ⟨by omega, fun _ => hS⟩, Nat.lt_succ_self _, ?_⟩
        refine ⟨?_, ?_, ?_⟩
        · skip
          repeat ((conv => whnf); first | exact True.intro | refine ⟨.rfl, ?_⟩ | refine ⟨.any, ?_⟩ | refine ⟨.nil, ?_⟩ | refine ⟨.int (by first | rfl | omega | (simp only [wrs]; omega)), ?_⟩ | refine ⟨.int (by simp only [List.length_map]), ?_⟩)
        · skip
          repeat (first | exact LeVs.nil | ((conv => whnf); first | exact True.intro | exact .none | exact .row rfl | refine .cells ?_ | refine ⟨_, _, rfl, .rfl, ?_⟩ | refine ⟨_, _, rfl, .any, ?_⟩ | refine ⟨_, _, rfl, .nil, ?_⟩ | refine ⟨_, _, rfl, .int (by first | rfl | omega | (simp only [wrs]; omega)), ?_⟩ | refine ⟨_, _, rfl, .int (by simp only [List.length_map]), ?_⟩ | refine ⟨?_, ?_⟩))
        · skip
          repeat (first | exact LeFr.nil | ((conv => whnf); first | exact True.intro | refine ⟨.rfl, ?_⟩ | refine ⟨_, _, rfl, rfl, ?_, ?_⟩))
    · skip
      conv => whnf
      rw [show (decide (0 < (↑(k + 1) : Int))) = true from decide_eq_true (by omega)]
      conv => whnf
      rw [show IntKind.i64.wrap ((↑(k + 1) : Int) - 1) = ((↑(k + 1) : Int) - 1) from wz.1 _ (by omega) (by omega)]
      refine IdxG.mk (j := k) (c := entC false e) (by rw [List.getElem?_map, he]; rfl) (by omega) ?_
      conv => whnf
      refine ⟨rfl, ?_⟩
      conv => whnf
      refine .ct ?_
      conv => whnf
      refine CallG.mk (fromF_X _ _ hb hm (by omega) hE hL (by simp (disch := omega) only [wz]; omega)) rfl ?_
      conv => whnf
      refine IdxG.mk rfl rfl ?_
      conv => whnf
      refine ⟨rfl, ?_⟩
      conv => whnf
      rw [show (decide (e.T = f.T)) = false from decide_eq_false (by omega)]
      conv => whnf
      refine ⟨(k, false), ⟨by omega, fun h => by cases h⟩, Nat.lt_succ_self _, ?_⟩
      refine ⟨?_, ?_, ?_⟩
      · skip
        repeat ((conv => whnf); first | exact True.intro | refine ⟨.rfl, ?_⟩ | refine ⟨.any, ?_⟩ | refine ⟨.nil, ?_⟩ | refine ⟨.int (by first | rfl | omega | (simp only [wrs]; omega)), ?_⟩ | refine ⟨.int (by simp only [List.length_map]), ?_⟩)
      · skip
        repeat (first | exact LeVs.nil | ((conv => whnf); first | exact True.intro | exact .none | exact .row rfl | refine .cells ?_ | refine ⟨_, _, rfl, .rfl, ?_⟩ | refine ⟨_, _, rfl, .any, ?_⟩ | refine ⟨_, _, rfl, .nil, ?_⟩ | refine ⟨_, _, rfl, .int (by first | rfl | omega | (simp only [wrs]; omega)), ?_⟩ | refine ⟨_, _, rfl, .int (by simp only [List.length_map]), ?_⟩ | refine ⟨?_, ?_⟩))
      · skip
        repeat (first | exact LeFr.nil | ((conv => whnf); first | exact True.intro | refine ⟨.rfl, ?_⟩ | refine ⟨_, _, rfl, rfl, ?_, ?_⟩))
    · skip
      conv => whnf
      rw [show (decide (0 < (↑(k + 1) : Int))) = true from decide_eq_true (by omega)]
      conv => whnf
      rw [show IntKind.i64.wrap ((↑(k + 1) : Int) - 1) = ((↑(k + 1) : Int) - 1) from wz.1 _ (by omega) (by omega)]
      refine IdxG.mk (j := k) (c := entC false e) (by rw [List.getElem?_map, he]; rfl) (by omega) ?_
      conv => whnf
      refine ⟨rfl, ?_⟩
      conv => whnf
      refine .ct ?_
      conv => whnf
      refine CallG.mk (fromN_X _ _ hb hm (by omega) hL (by simp (disch := omega) only [wz]; omega)) rfl ?_
      conv => whnf
      cases hc3 : (decide (fromE i t b (i + (↑k : Int) + 1) 1 = 0))
      · skip
        try simp only [bls] at hc3
        conv => whnf
        refine ⟨(k, false), ⟨by omega, fun h => by cases h⟩, Nat.lt_succ_self _, ?_⟩
        refine ⟨?_, ?_, ?_⟩
        · skip
          repeat ((conv => whnf); first | exact True.intro | refine ⟨.rfl, ?_⟩ | refine ⟨.any, ?_⟩ | refine ⟨.nil, ?_⟩ | refine ⟨.int (by first | rfl | omega | (simp only [wrs]; omega)), ?_⟩ | refine ⟨.int (by simp only [List.length_map]), ?_⟩)
        · skip
          repeat (first | exact LeVs.nil | ((conv => whnf); first | exact True.intro | exact .none | exact .row rfl | refine .cells ?_ | refine ⟨_, _, rfl, .rfl, ?_⟩ | refine ⟨_, _, rfl, .any, ?_⟩ | refine ⟨_, _, rfl, .nil, ?_⟩ | refine ⟨_, _, rfl, .int (by first | rfl | omega | (simp only [wrs]; omega)), ?_⟩ | refine ⟨_, _, rfl, .int (by simp only [List.length_map]), ?_⟩ | refine ⟨?_, ?_⟩))
        · skip
          repeat (first | exact LeFr.nil | ((conv => whnf); first | exact True.intro | refine ⟨.rfl, ?_⟩ | refine ⟨_, _, rfl, rfl, ?_, ?_⟩))
      · skip
        try simp only [bls] at hc3
        conv => whnf
        refine ⟨(k, false), ⟨by omega, fun h => by cases h⟩, Nat.lt_succ_self _, ?_⟩
        refine ⟨?_, ?_, ?_⟩
        · skip
          repeat ((conv => whnf); first | exact True.intro | refine ⟨.rfl, ?_⟩ | refine ⟨.any, ?_⟩ | refine ⟨.nil, ?_⟩ | refine ⟨.int (by first | rfl | omega | (simp only [wrs]; omega)), ?_⟩ | refine ⟨.int (by simp only [List.length_map]), ?_⟩)
        · skip
          repeat (first | exact LeVs.nil | ((conv => whnf); first | exact True.intro | exact .none | exact .row rfl | refine .cells ?_ | refine ⟨_, _, rfl, .rfl, ?_⟩ | refine ⟨_, _, rfl, .any, ?_⟩ | refine ⟨_, _, rfl, .nil, ?_⟩ | refine ⟨_, _, rfl, .int (by first | rfl | omega | (simp only [wrs]; omega)), ?_⟩ | refine ⟨_, _, rfl, .int (by simp only [List.length_map]), ?_⟩ | refine ⟨?_, ?_⟩))
        · skip
          repeat (first | exact LeFr.nil | ((conv => whnf); first | exact True.intro | refine ⟨.rfl, ?_⟩ | refine ⟨_, _, rfl, rfl, ?_, ?_⟩))
set_option maxRecDepth 20000 in
theorem common_X (u u' v v' w w' : Bool) {m i t : Int} {a b c : List Ent} (h : J m i t a b c) (hm : m < 1000) (x y : Int) : XMeets Try.prog 42 [.agg [.v (.int .u64 i), .v (.int .u64 t), .sl u (a.map (entC u')), .v (.int .u64 i), .v (.int .u64 t), .sl v (b.map (entC v')), .v (.int .u64 i), .v (.int .u64 t), .sl w (c.map (entC w'))], .agg [.v (.int .u64 x), .v (.int .u64 y)]] (.p (.v (.bool (hasB i t a x y && hasB i t b x y && hasB i t c x y))) (nlv _)) := by
  refine XMeets.of_X tabX_ok (avs := [.ag [.p (.v (.int .u64 i)) (nlv _), .p (.v (.int .u64 t)) (nlv _), .p (.sl false (a.map (entC false))) (nl_ents _ _).sl, .p (.v (.int .u64 i)) (nlv _), .p (.v (.int .u64 t)) (nlv _), .p (.sl false (b.map (entC false))) (nl_ents _ _).sl, .p (.v (.int .u64 i)) (nlv _), .p (.v (.int .u64 t)) (nlv _), .p (.sl false (c.map (entC false))) (nl_ents _ _).sl], .ag [.p (.v (.int .u64 x)) (nlv _), .p (.v (.int .u64 y)) (nlv _)]]) [(0, .ag [.p (.v (.int .u64 i)) (nlv _), .p (.v (.int .u64 t)) (nlv _), .p (.sl false (a.map (entC false))) (nl_ents _ _).sl, .p (.v (.int .u64 i)) (nlv _), .p (.v (.int .u64 t)) (nlv _), .p (.sl false (b.map (entC false))) (nl_ents _ _).sl, .p (.v (.int .u64 i)) (nlv _), .p (.v (.int .u64 t)) (nlv _), .p (.sl false (c.map (entC false))) (nl_ents _ _).sl]), (1, .ag [.p (.v (.int .u64 x)) (nlv _), .p (.v (.int .u64 y)) (nlv _)])] (by kernel_rfl) Try.func42 rfl (by simp [PuL, Pu, logT, pu_ents, pu_bytes]) (by simp only [untagL, untag, logT, untag_ents]; rfl) rfl rfl ?_
  intro B w0
  conv => whnf
  refine XT.loop tabX_ok (Y := Nat) [4, 6, 8, 9, 10, 11, 12, 13, 14, 15] (fun k => [(8, .p (.v (.int .i64 (k : Int))) (nlv _))]) (fun k => []) (fun k => k ≤ 3 ∧ (1 ≤ k → hasB i t a x y = true) ∧ (2 ≤ k → hasB i t b x y = true) ∧ (3 ≤ k → hasB i t c x y = true)) (fun k => 3 - k) 0 ⟨by omega, by omega, by omega, by omega⟩ ?_ ?_
  · skip
    refine ⟨?_, ?_, ?_⟩
    · skip
      repeat ((conv => whnf); first | exact True.intro | refine ⟨.rfl, ?_⟩ | refine ⟨.any, ?_⟩ | refine ⟨.nil, ?_⟩ | refine ⟨.int (by first | rfl | omega | (simp only [wrs]; omega)), ?_⟩ | refine ⟨.int (by simp only [List.length_map]), ?_⟩)
    · skip
      repeat (first | exact LeVs.nil | ((conv => whnf); first | exact True.intro | exact .none | exact .row rfl | refine .cells ?_ | refine ⟨_, _, rfl, .rfl, ?_⟩ | refine ⟨_, _, rfl, .any, ?_⟩ | refine ⟨_, _, rfl, .nil, ?_⟩ | refine ⟨_, _, rfl, .int (by first | rfl | omega | (simp only [wrs]; omega)), ?_⟩ | refine ⟨_, _, rfl, .int (by simp only [List.length_map]), ?_⟩ | refine ⟨?_, ?_⟩))
    · skip
      repeat (first | exact LeFr.nil | ((conv => whnf); first | exact True.intro | refine ⟨.rfl, ?_⟩ | refine ⟨_, _, rfl, rfl, ?_, ?_⟩))
  · skip
    rintro k ⟨hk, ka, kb, kc⟩
    rcases (show k = 0 ∨ k = 1 ∨ k = 2 ∨ k = 3 by omega) with rfl | rfl | rfl | rfl
    · skip
      conv => whnf
      refine ⟨0, rfl, Nat.le_of_ble_eq_true rfl, ?_⟩
      conv => whnf
      refine .ct ?_
      conv => whnf
      refine CallG.mk (has_X _ _ h.la hm _ _) rfl ?_
      conv => whnf
      cases hc1 : (hasB i t a x y)
      · skip
        try simp only [bls] at hc1
        conv => whnf
        refine FinG.mk none ?_ (by rintro _ ⟨⟩)
        simp only [outs, List.length_map, List.length_append, List.length_take, List.length_drop, List.length_cons, List.length_nil, lgX, lgC, atX, List.map_map]
        simp; done
      · skip
        try simp only [bls] at hc1
        conv => whnf
        refine ⟨1, ⟨by omega, fun hz => by first | rfl | assumption | omega, fun hz => by first | rfl | assumption | omega, fun hz => by first | rfl | assumption | omega⟩, by omega, ?_⟩
        refine ⟨?_, ?_, ?_⟩
        · skip
          repeat ((conv => whnf); first | exact True.intro | refine ⟨.rfl, ?_⟩ | refine ⟨.any, ?_⟩ | refine ⟨.nil, ?_⟩ | refine ⟨.int (by first | rfl | omega | (simp only [wrs]; omega)), ?_⟩ | refine ⟨.int (by simp only [List.length_map]), ?_⟩)
        · skip
          repeat (first | exact LeVs.nil | ((conv => whnf); first | exact True.intro | exact .none | exact .row rfl | refine .cells ?_ | refine ⟨_, _, rfl, .rfl, ?_⟩ | refine ⟨_, _, rfl, .any, ?_⟩ | refine ⟨_, _, rfl, .nil, ?_⟩ | refine ⟨_, _, rfl, .int (by first | rfl | omega | (simp only [wrs]; omega)), ?_⟩ | refine ⟨_, _, rfl, .int (by simp only [List.length_map]), ?_⟩ | refine ⟨?_, ?_⟩))
        · skip
          repeat (first | exact LeFr.nil | ((conv => whnf); first | exact True.intro | refine ⟨.rfl, ?_⟩ | refine ⟨_, _, rfl, rfl, ?_, ?_⟩))
    · skip
      have ha := ka (by omega)
      conv => whnf
      refine ⟨1, rfl, Nat.le_of_ble_eq_true rfl, ?_⟩
      conv => whnf
      refine .ct ?_
      conv => whnf
      refine CallG.mk (has_X _ _ h.lb hm _ _) rfl ?_
      conv => whnf
      cases hc2 : (hasB i t b x y)
      · skip
        try simp only [bls] at hc2
        conv => whnf
        refine FinG.mk none ?_ (by rintro _ ⟨⟩)
        simp only [outs, List.length_map, List.length_append, List.length_take, List.length_drop, List.length_cons, List.length_nil, lgX, lgC, atX, List.map_map]
        simp; done
      · skip
        try simp only [bls] at hc2
        conv => whnf
        refine ⟨2, ⟨by omega, fun hz => by first | rfl | assumption | omega, fun hz => by first | rfl | assumption | omega, fun hz => by first | rfl | assumption | omega⟩, by omega, ?_⟩
        refine ⟨?_, ?_, ?_⟩
        · skip
          repeat ((conv => whnf); first | exact True.intro | refine ⟨.rfl, ?_⟩ | refine ⟨.any, ?_⟩ | refine ⟨.nil, ?_⟩ | refine ⟨.int (by first | rfl | omega | (simp only [wrs]; omega)), ?_⟩ | refine ⟨.int (by simp only [List.length_map]), ?_⟩)
        · skip
          repeat (first | exact LeVs.nil | ((conv => whnf); first | exact True.intro | exact .none | exact .row rfl | refine .cells ?_ | refine ⟨_, _, rfl, .rfl, ?_⟩ | refine ⟨_, _, rfl, .any, ?_⟩ | refine ⟨_, _, rfl, .nil, ?_⟩ | refine ⟨_, _, rfl, .int (by first | rfl | omega | (simp only [wrs]; omega)), ?_⟩ | refine ⟨_, _, rfl, .int (by simp only [List.length_map]), ?_⟩ | refine ⟨?_, ?_⟩))
        · skip
          repeat (first | exact LeFr.nil | ((conv => whnf); first | exact True.intro | refine ⟨.rfl, ?_⟩ | refine ⟨_, _, rfl, rfl, ?_, ?_⟩))
    · skip
      have ha := ka (by omega)
      have hb := kb (by omega)
      conv => whnf
      refine ⟨2, rfl, Nat.le_of_ble_eq_true rfl, ?_⟩
      conv => whnf
      refine .ct ?_
      conv => whnf
      refine CallG.mk (has_X _ _ h.lc hm _ _) rfl ?_
      conv => whnf
      cases hc3 : (hasB i t c x y)
      · skip
        try simp only [bls] at hc3
        conv => whnf
        refine FinG.mk none ?_ (by rintro _ ⟨⟩)
        simp only [outs, List.length_map, List.length_append, List.length_take, List.length_drop, List.length_cons, List.length_nil, lgX, lgC, atX, List.map_map]
        simp; done
      · skip
        try simp only [bls] at hc3
        conv => whnf
        refine ⟨3, ⟨by omega, fun hz => by first | rfl | assumption | omega, fun hz => by first | rfl | assumption | omega, fun hz => by first | rfl | assumption | omega⟩, by omega, ?_⟩
        refine ⟨?_, ?_, ?_⟩
        · skip
          repeat ((conv => whnf); first | exact True.intro | refine ⟨.rfl, ?_⟩ | refine ⟨.any, ?_⟩ | refine ⟨.nil, ?_⟩ | refine ⟨.int (by first | rfl | omega | (simp only [wrs]; omega)), ?_⟩ | refine ⟨.int (by simp only [List.length_map]), ?_⟩)
        · skip
          repeat (first | exact LeVs.nil | ((conv => whnf); first | exact True.intro | exact .none | exact .row rfl | refine .cells ?_ | refine ⟨_, _, rfl, .rfl, ?_⟩ | refine ⟨_, _, rfl, .any, ?_⟩ | refine ⟨_, _, rfl, .nil, ?_⟩ | refine ⟨_, _, rfl, .int (by first | rfl | omega | (simp only [wrs]; omega)), ?_⟩ | refine ⟨_, _, rfl, .int (by simp only [List.length_map]), ?_⟩ | refine ⟨?_, ?_⟩))
        · skip
          repeat (first | exact LeFr.nil | ((conv => whnf); first | exact True.intro | refine ⟨.rfl, ?_⟩ | refine ⟨_, _, rfl, rfl, ?_, ?_⟩))
    · skip
      have ha := ka (by omega)
      have hb := kb (by omega)
      have hc := kc (by omega)
      conv => whnf
      refine FinG.mk none ?_ (by rintro _ ⟨⟩)
      simp only [outs, List.length_map, List.length_append, List.length_take, List.length_drop, List.length_cons, List.length_nil, lgX, lgC, atX, List.map_map]
      simp_all
structure ActA where
  K : Int
  W : Int
  V : Int
  N : Int
  I : Int
  D : Int
def actC (x : ActA) : List TV := [.v (.int .i64 x.K), .v (.int .i64 x.W), .v (.int .i64 x.V), .v (.int .i64 x.N), .v (.int .u64 x.I), .v (.int .u8 x.D)]
theorem nl_acts (l : List ActA) : NlLL (l.map actC) := .map fun x _ => .cons (nlv _) (.cons (nlv _) (.cons (nlv _) (.cons (nlv _) (.cons (nlv _) (.cons (nlv _) .nil)))))
theorem pu_acts (l : List ActA) : PuLL (l.map actC) := PuLL_map _ _ fun x _ => by simp [actC, PuL, Pu]
theorem ut_acts (l : List ActA) : untagLL (l.map actC) = l.map actC := by
  rw [untagLL_map]; exact List.map_congr_left fun x _ => rfl
structure ActA.Ok (x : ActA) : Prop where
  n : x.N < 9223372036854775808
  i : 0 ≤ x.I
theorem mod3 (a : Int) : (IntKind.u64.wrap a).tmod 3 = 0 ∨ (IntKind.u64.wrap a).tmod 3 = 1 ∨ (IntKind.u64.wrap a).tmod 3 = 2 := by
  have h0 : 0 ≤ IntKind.u64.wrap a := by rw [wr_u64]; omega
  rw [Int.tmod_eq_emod_of_nonneg h0]; omega
theorem act_all {acts : List ActA} (hA : ∀ x ∈ acts, x.Ok) (k : Nat) : acts.length ≤ k ∨ ∃ x, ∃ q : Nat, k < acts.length ∧ acts[k]? = some x ∧ x.I.tmod 17 = q ∧ q ≤ 16 ∧ x.N < 9223372036854775808 ∧
    ((IntKind.u64.wrap x.W).tmod 3 = 0 ∨ (IntKind.u64.wrap x.W).tmod 3 = 1 ∨ (IntKind.u64.wrap x.W).tmod 3 = 2) ∧ ((IntKind.u64.wrap x.V).tmod 3 = 0 ∨ (IntKind.u64.wrap x.V).tmod 3 = 1 ∨ (IntKind.u64.wrap x.V).tmod 3 = 2) := by
  rcases Nat.lt_or_ge k acts.length with h | h
  · right
    have h1 := hA acts[k] (List.getElem_mem h)
    have h2 : 0 ≤ acts[k].I.tmod 17 := Int.tmod_nonneg _ h1.i
    have h3 : acts[k].I.tmod 17 < 17 := Int.tmod_lt_of_pos _ (by decide)
    exact ⟨acts[k], (acts[k].I.tmod 17).toNat, h, List.getElem?_eq_getElem h, (Int.toNat_of_nonneg h2).symm, by omega, h1.n, mod3 _, mod3 _⟩
  · exact .inl h
theorem J.nat {k : Nat} {i t : Int} {a b c : List Ent} (h : J ((k : Int) + 1) i t a b c) : J ((k + 1 : Nat) : Int) i t a b c := by
  rw [show ((k + 1 : Nat) : Int) = (k : Int) + 1 by omega]; exact h
theorem com_at {m i t T : Int} {a b c : List Ent} (h : J m i t a b c) (hm : m < 1000) {x : Int} {q : Nat} (hh : (hasB i t a x T = true ∧ hasB i t b x T = true) ∧ hasB i t c x T = true) (hx : x = i + q) : (q ≤ a.length ∧ tm t a q = T) ∧ (q ≤ b.length ∧ tm t b q = T) ∧ q ≤ c.length ∧ tm t c q = T := by
  have key : ∀ {y : List Ent}, Lg m i t y → hasB i t y x T = true → q ≤ y.length ∧ tm t y q = T := fun {y} hy h1 => by
    have := hy.len
    obtain ⟨k, k1, k2, k3⟩ := (has_iff hy.i0 (by omega)).1 h1
    obtain rfl : k = q := by omega
    exact ⟨k1, k3⟩
  exact ⟨key h.la hh.1.1, key h.lb hh.1.2, key h.lc hh.2⟩
theorem term_cases {m i t : Int} {y : List Ent} (h : Lg m i t y) (q : Nat) : (q ≤ y.length ∧ termN i t y (i + q) = (tm t y q, true)) ∨ termN i t y (i + q) = (0, false) := by
  rcases comp_cases h.i0 h.may (i + q) with ⟨k, g1, g2, g3, g4, g5⟩ | ⟨_, g⟩
  · obtain rfl : k = q := by omega
    exact .inl ⟨g1, g5⟩
  · exact .inr g
theorem termQ_X (b b' : Bool) {m i t x T : Int} {B : Bool} {es : List Ent} (h : Lg m i t es) (hm : m < 1000) {q : Nat} (hx : x = i + q) (hT : termN i t es (i + q) = (T, B)) : XMeets Try.prog 32 [logT i t (.sl b (es.map (entC b'))), .v (.int .u64 x)] (.tu [.p (.v (.int .u64 T)) (nlv _), .p (.v (.bool B)) (nlv _)]) := by
  subst hx
  have h1 := term_X b b' (x := i + q) h hm
  rw [hT] at h1; exact h1
theorem fromA_X (b b' : Bool) {m i t : Int} {es : List Ent} (h : Lg m i t es) (hm : m < 1000) {x n : Int} {q : Nat} (hq : q ≤ es.length) (hx : x = i + 1 + q) (hn0 : 0 ≤ n) (hn : n < 9223372036854775808) (hE : fromE i t es (i + 1 + q) n = 0) (hA : fromA i t es (i + 1 + q) n = (i + q, tm t es q)) (hL : fromL i t es (i + 1 + q) n = (es.drop q).take n.toNat) : XMeets Try.prog 34 [logT i t (.sl b (es.map (entC b'))), .v (.int .u64 x), .v (.int .i64 n)]
    (.tu [atX (i + q, tm t es q), .p (.sl true (((es.drop q).take n.toNat).map (entC true))) (nl_ents _ _).sl, .p (.v (.int .i64 0)) (nlv _)]) := by
  subst hx
  have hl := h.len
  have hi := h.i0
  have h1 := from_X b b' h hm (i + 1 + q) n (by omega) (by omega) hn
  rw [hE, hA] at h1
  refine ⟨h1.1, ?_⟩
  have h2 := h1.2
  simp only [XV.den, XV.denL, hL] at h2 ⊢
  exact h2
theorem fromB_X (b b' : Bool) {m i t : Int} {es : List Ent} (h : Lg m i t es) (hm : m < 1000) {x n : Int} {q : Nat} (hq : q ≤ 16) (hx : x = i + 1 + q) (hn0 : 0 ≤ n) (hn : n < 9223372036854775808) (hE : fromE i t es (i + 1 + q) n = 4) (hL : fromL i t es (i + 1 + q) n = []) : XMeets Try.prog 34 [logT i t (.sl b (es.map (entC b'))), .v (.int .u64 x), .v (.int .i64 n)]
    (.tu [atX (fromA i t es (i + 1 + q) n), .p (.sl true []) NlLL.nil.sl, .p (.v (.int .i64 4)) (nlv _)]) := by
  subst hx
  have hl := h.len
  have hi := h.i0
  have h1 := from_X b b' h hm (i + 1 + q) n (by omega) (by omega) hn
  rw [hE] at h1
  refine ⟨h1.1, ?_⟩
  have h2 := h1.2
  simp only [XV.den, XV.denL, hL] at h2 ⊢
  exact h2
theorem appY_X (b b' c : Bool) {m i t : Int} {es : List Ent} (h : Lg m i t es) (hm0 : 0 ≤ m) (hm : m < 1000) (d m1 : Int) (hm1 : m1 = m + 1) (hE : xtE i t es [entA m d] = 0) : XMeets Try.prog 23 [logT i t (.sl b (es.map (entC b'))), .agg [.v (.int .u64 m1), .v (.int .i64 2), .sl c [[.v (.int .u8 d)]]]]
    (.tu [.ag (lgC i t (es ++ [entA m d])), atX (endN 0 i t (es ++ [entA m d])), .p (.v (.int .i64 0)) (nlv _)]) := by
  have h1 := app_X b b' c h hm0 hm d m1 hm1
  rw [hE, lgX, if_pos rfl] at h1
  exact h1
theorem appN_X (b b' c : Bool) {m i t : Int} {es : List Ent} (h : Lg m i t es) (hm0 : 0 ≤ m) (hm : m < 1000) (d m1 : Int) (hm1 : m1 = m + 1) (hE : ¬ xtE i t es [entA m d] = 0) : XMeets Try.prog 23 [logT i t (.sl b (es.map (entC b'))), .agg [.v (.int .u64 m1), .v (.int .i64 2), .sl c [[.v (.int .u8 d)]]]]
    (.tu [.ag (lgC 0 0 []), atX (endN (xtE i t es [entA m d]) i t (es ++ [entA m d])), .p (.v (.int .i64 (xtE i t es [entA m d]))) (nlv _)]) := by
  have h1 := app_X b b' c h hm0 hm d m1 hm1
  rw [lgX, if_neg hE] at h1
  exact h1
theorem okE_dt {m i t : Int} {es : List Ent} (h : Lg m i t es) (q n : Nat) : okE ((es.drop q).take n) := (h.ok.drop q).take n
theorem takeY_X (b b' b2 b2' : Bool) {m i t : Int} {es y : List Ent} (h : Lg m i t es) (hy : Lg m i t y) (hm : m < 1000) {q n : Nat} (hq : q ≤ y.length) (hE : takeE i t es (i + q, tm t y q) ((y.drop q).take n) = 0) : XMeets Try.prog 26 [logT i t (.sl b (es.map (entC b'))), .agg [.v (.int .u64 (i + q)), .v (.int .u64 (tm t y q))], .sl b2 (((y.drop q).take n).map (entC b2'))]
    (.tu [.ag (lgC i t (takeL i t es (i + q, tm t y q) ((y.drop q).take n))), .p (.v (.int .u64 (takeA i t es (i + q, tm t y q) ((y.drop q).take n)))) (nlv _), .p (.v (.int .i64 0)) (nlv _)]) := by
  have hl := hy.len
  have hi := hy.i0
  have h1 := take_X b b' b2 b2' h hm (okE_dt hy q n) (i + q, tm t y q) (by simp only; omega) (by simp only; omega)
  rw [hE, lgX, if_pos rfl] at h1
  exact h1
theorem takeN_X (b b' b2 b2' : Bool) {m i t : Int} {es y : List Ent} (h : Lg m i t es) (hy : Lg m i t y) (hm : m < 1000) {q n : Nat} (hq : q ≤ y.length) (hE : ¬ takeE i t es (i + q, tm t y q) ((y.drop q).take n) = 0) : XMeets Try.prog 26 [logT i t (.sl b (es.map (entC b'))), .agg [.v (.int .u64 (i + q)), .v (.int .u64 (tm t y q))], .sl b2 (((y.drop q).take n).map (entC b2'))]
    (.tu [.ag (lgC 0 0 []), .p (.v (.int .u64 (takeA i t es (i + q, tm t y q) ((y.drop q).take n)))) (nlv _), .p (.v (.int .i64 (takeE i t es (i + q, tm t y q) ((y.drop q).take n)))) (nlv _)]) := by
  have hl := hy.len
  have hi := hy.i0
  have h1 := take_X b b' b2 b2' h hm (okE_dt hy q n) (i + q, tm t y q) (by simp only; omega) (by simp only; omega)
  rw [lgX, if_neg hE] at h1
  exact h1
theorem chk_cut {P : Program} {B : Nat} {w0 : World} {n : Nat} {G : Prop} {m : Int} (E : Env) {C : Int → Int → List Ent → List Ent → List Ent → List XLB} {LC : Code} {K : XQ} (h1 : (∀ i t a b c, J m i t a b c → XT P B w0 n LC E (C i t a b c) [] K) → G) (h2 : ∀ i t a b c, J m i t a b c → XT P B w0 n LC E (C i t a b c) [] K) : G := h1 h2
def cutC : Nat → Int → Int → Nat → Int → List Ent → List Ent → List Ent → List XV
  | 0, i, t, q, T, a, b, c => lgC i t a ++ (lgC i t b ++ lgC i t c)
  | 1, i, t, q, T, a, b, c => lgC (i + q) T (a.drop q) ++ (lgC i t b ++ lgC i t c)
  | 2, i, t, q, T, a, b, c => lgC (i + q) T (a.drop q) ++ (lgC (i + q) T (b.drop q) ++ lgC i t c)
  | _, i, t, q, T, a, b, c => lgC (i + q) T (a.drop q) ++ (lgC (i + q) T (b.drop q) ++ lgC (i + q) T (c.drop q))
set_option maxHeartbeats 4000000 in
set_option maxRecDepth 20000 in
theorem lMatch_X (g : Bool) (acts : List ActA) (hA : ∀ x ∈ acts, x.Ok) (hn : acts.length ≤ 9223372036854775807) : XMeets Try.prog 7 [.sl g (acts.map actC)] (.p (.v (.bool true)) (nlv _)) := by
  refine XMeets.of_X tabX_ok (avs := [.p (.sl false (acts.map actC)) (nl_acts _).sl]) [(0, .p (.sl false (acts.map actC)) (nl_acts _).sl)] (by kernel_rfl) Try.func7 rfl (by simp [PuL, Pu, pu_acts]) (by simp only [untagL, untag, ut_acts]; rfl) rfl rfl ?_
  intro B w0
  conv => whnf
  refine .ct ?_
  conv => whnf
  refine CallG.mk (wakes_X) rfl ?_
  conv => whnf
  refine XT.loop tabX_ok (Y := Nat × Int × Int × List Ent × List Ent × List Ent) [0, 2, 4, 5, 6, 7, 8, 9, 10, 11, 12, 13, 14, 15, 16, 17, 18, 19, 20, 21, 22, 23, 24, 25, 26, 29, 30, 31, 32, 33, 34, 35, 36, 37, 38, 39, 40, 41, 42, 43, 44, 45, 46, 47, 48, 49, 50, 51, 52, 53, 54, 55, 56, 57, 58, 59, 60, 61, 62, 63, 64, 65, 66, 67, 68, 69, 70, 71, 72, 73, 74, 75, 76, 77, 78, 79, 80, 81, 82, 83, 84, 85, 86, 87, 88, 89, 90, 91, 92, 93, 94, 95, 96, 97, 98, 99, 100, 101, 102, 103, 104, 105, 106, 107, 108, 109, 110, 111, 112, 113, 114, 115, 116, 117, 118, 119, 120, 121, 122, 123, 124, 125, 126, 127, 128, 129, 130, 131, 132, 133, 134, 135, 136, 137, 138, 139, 140, 141, 142, 143, 144, 145, 146, 147, 148, 149, 150, 151, 152, 153, 154, 155, 156, 157, 158, 159, 160, 161, 162, 163, 164, 165, 166, 167, 168, 169, 170, 171, 172, 173, 174, 175, 176] (fun (k, i, t, a, b, c) => [(29, .p (.v (.int .i64 (k : Int))) (nlv _)), (0, .any), (25, .any), (26, .any), (2, .any)]) (fun (k, i, t, a, b, c) => [(0, .cells 40 (cutC 0 i t 0 0 a b c))]) (fun (k, i, t, a, b, c) => k ≤ 60 ∧ k ≤ acts.length ∧ J k i t a b c) (fun (k, i, t, a, b, c) => acts.length - k) (0, 0, 0, [], [], []) ⟨Nat.zero_le _, Nat.zero_le _, J.zero⟩ ?_ ?_
  · skip
    refine ⟨?_, ?_, ?_⟩
    · skip
      repeat ((conv => whnf); first | exact True.intro | refine ⟨.rfl, ?_⟩ | refine ⟨.any, ?_⟩ | refine ⟨.nil, ?_⟩ | refine ⟨.int (by first | rfl | omega | (simp only [wrs]; omega)), ?_⟩ | refine ⟨.int (by simp only [List.length_map]), ?_⟩)
    · skip
      repeat (first | exact LeVs.nil | ((conv => whnf); first | exact True.intro | exact .none | exact .row rfl | refine .cells ?_ | refine ⟨_, _, rfl, .rfl, ?_⟩ | refine ⟨_, _, rfl, .any, ?_⟩ | refine ⟨_, _, rfl, .nil, ?_⟩ | refine ⟨_, _, rfl, .int (by first | rfl | omega | (simp only [wrs]; omega)), ?_⟩ | refine ⟨_, _, rfl, .int (by simp only [List.length_map]), ?_⟩ | refine ⟨?_, ?_⟩))
    · skip
      repeat (first | exact LeFr.nil | ((conv => whnf); first | exact True.intro | refine ⟨.rfl, ?_⟩ | refine ⟨_, _, rfl, rfl, ?_, ?_⟩))
  · skip
    rintro ⟨k, i, t, a, b, c⟩ ⟨hk60, hkl, hJ⟩
    rcases act_all hA k with hlen | ⟨x, q, hlt, hx, hq, hq16, hN, hW, hV⟩
    · skip
      conv => whnf
      rw [show (decide ((↑k : Int) < (↑(List.map actC acts).length : Int))) = false from decide_eq_false (by rw [List.length_map]; omega)]
      conv => whnf
      refine FinG.mk none ?_ (by rintro _ ⟨⟩)
      simp only [outs, List.length_map, List.length_append, List.length_take, List.length_drop, List.length_cons, List.length_nil, lgX, lgC, atX, List.map_map]
    · skip
      have hia := hJ.la.len
      have hi0 := hJ.la.i0
      rcases Nat.lt_or_ge k 60 with h60 | h60
      · skip
        apply chk_cut (P := Try.prog) (B := B) (w0 := w0) (n := Try.f7.ntmps) (m := (k : Int) + 1) (C := fun i t a b c => [.cells 40 (cutC 0 i t 0 0 a b c)]) [(155, .p (.v (.int .i64 0)) (nlv _)), (29, .p (.v (.int .i64 (k : Int))) (nlv _)), (28, .p (.v (.int .i64 ((acts.map actC).length : Int))) (nlv _)), (27, .p (.sl false (acts.map actC)) (nl_acts _).sl), (3, .ptr 0 0)]
        · skip
          intro chk
          conv => whnf
          rw [show (decide ((↑k : Int) < (↑(List.map actC acts).length : Int))) = true from decide_eq_true (by rw [List.length_map]; omega)]
          conv => whnf
          refine IdxG.mk (j := k) (c := actC x) (by rw [List.getElem?_map, hx]; rfl) rfl ?_
          conv => whnf
          refine ⟨rfl, ?_⟩
          conv => whnf
          rw [show (decide ((↑k : Int) = 60)) = false from decide_eq_false (by omega)]
          conv => whnf
          refine RegG.par 10 (by kernel_rfl) ?_
          conv => whnf
          cases hc1 : (decide ((IntKind.u64.wrap x.K).tmod 4 = 0))
          · skip
            try simp only [bls] at hc1
            try simp (disch := omega) only [wz, Int.reduceAdd, Int.reduceSub, Int.reduceMul, Int.reduceNeg, Int.zero_add, Int.add_zero, Int.sub_zero, Int.sub_self] at hc1
            conv => whnf
            cases hc2 : (decide ((IntKind.u64.wrap x.K).tmod 4 = 3))
            · skip
              try simp only [bls] at hc2
              try simp (disch := omega) only [wz, Int.reduceAdd, Int.reduceSub, Int.reduceMul, Int.reduceNeg, Int.zero_add, Int.add_zero, Int.sub_zero, Int.sub_self] at hc2
              conv => whnf
              refine RegG.par 11 (by kernel_rfl) ?_
              conv => whnf
              rcases hV with hv | hv | hv
              · skip
                conv => whnf
                refine ⟨0, hv, Nat.le_of_ble_eq_true rfl, ?_⟩
                conv => whnf
                refine RegG.latea 16 [] (by kernel_rfl) ?_
                conv => whnf
                rw [show IntKind.u64.wrap (i + 1) = (i + 1) from wz.2.1 _ (by omega) (by omega)]
                conv => whnf
                rw [show IntKind.u64.wrap (i + 1 + x.I.tmod 17) = (i + 1 + x.I.tmod 17) from wz.2.1 _ (by omega) (by omega)]
                conv => whnf
                refine ⟨0, hv, Nat.le_of_ble_eq_true rfl, ?_⟩
                conv => whnf
                rcases from_is hJ.la (by omega) q (n := max x.N 0) (by omega) with ⟨hj, hfE, hfA, hfL⟩ | ⟨hj, hfE, hfL⟩
                · skip
                  conv => whnf
                  refine CallG.mk (fromA_X _ _ hJ.la (by omega) hj (by simp (disch := omega) only [wz, hq]; try omega) (by omega) (by omega) hfE hfA hfL) rfl ?_
                  conv => whnf
                  refine ⟨rfl, ?_⟩
                  conv => whnf
                  refine RegG.latea 14 [] (by kernel_rfl) ?_
                  conv => whnf
                  rcases hW with hw | hw | hw
                  · skip
                    conv => whnf
                    refine ⟨0, hw, Nat.le_of_ble_eq_true rfl, ?_⟩
                    conv => whnf
                    by_cases hE : takeE i t a (i + q, tm t a q) ((a.drop q).take (max x.N 0).toNat) = 0
                    · skip
                      conv => whnf
                      refine CallG.mk (takeY_X _ _ _ _ hJ.la hJ.la (by omega) hj hE) rfl ?_
                      conv => whnf
                      refine ⟨rfl, ?_⟩
                      conv => whnf
                      simp (disch := omega) only [wz, Int.reduceAdd, Int.reduceSub, Int.reduceMul, Int.reduceNeg, Int.zero_add, Int.add_zero, Int.sub_zero, Int.sub_self]
                      conv => whnf
                      refine ⟨0, hw, Nat.le_of_ble_eq_true rfl, ?_⟩
                      conv => whnf
                      have hJ' := hJ.t00 (by omega) hj hE
                      refine XT.weak ⟨?_, ?_, ?_⟩ (chk _ _ _ _ _ hJ')
                      · skip
                        repeat ((conv => whnf); first | exact True.intro | refine ⟨.rfl, ?_⟩ | refine ⟨.any, ?_⟩ | refine ⟨.nil, ?_⟩ | refine ⟨.int (by first | rfl | omega | (simp only [wrs]; omega)), ?_⟩ | refine ⟨.int (by simp only [List.length_map]), ?_⟩)
                      · skip
                        repeat (first | exact LeVs.nil | ((conv => whnf); first | exact True.intro | exact .none | exact .row rfl | refine .cells ?_ | refine ⟨_, _, rfl, .rfl, ?_⟩ | refine ⟨_, _, rfl, .any, ?_⟩ | refine ⟨_, _, rfl, .nil, ?_⟩ | refine ⟨_, _, rfl, .int (by first | rfl | omega | (simp only [wrs]; omega)), ?_⟩ | refine ⟨_, _, rfl, .int (by simp only [List.length_map]), ?_⟩ | refine ⟨?_, ?_⟩))
                      · skip
                        repeat (first | exact LeFr.nil | ((conv => whnf); first | exact True.intro | refine ⟨.rfl, ?_⟩ | refine ⟨_, _, rfl, rfl, ?_, ?_⟩))
                    · skip
                      conv => whnf
                      refine CallG.mk (takeN_X _ _ _ _ hJ.la hJ.la (by omega) hj hE) rfl ?_
                      conv => whnf
                      refine ⟨rfl, ?_⟩
                      conv => whnf
                      rw [show (decide (takeE i t a (i + (↑q : Int), tm t a q) (List.take (max x.N 0).toNat (List.drop q a)) = 0)) = false from decide_eq_false (by omega)]
                      conv => whnf
                      have hJ' := hJ.mono (m' := (k : Int) + 1) (by omega)
                      refine XT.weak ⟨?_, ?_, ?_⟩ (chk _ _ _ _ _ hJ')
                      · skip
                        repeat ((conv => whnf); first | exact True.intro | refine ⟨.rfl, ?_⟩ | refine ⟨.any, ?_⟩ | refine ⟨.nil, ?_⟩ | refine ⟨.int (by first | rfl | omega | (simp only [wrs]; omega)), ?_⟩ | refine ⟨.int (by simp only [List.length_map]), ?_⟩)
                      · skip
                        repeat (first | exact LeVs.nil | ((conv => whnf); first | exact True.intro | exact .none | exact .row rfl | refine .cells ?_ | refine ⟨_, _, rfl, .rfl, ?_⟩ | refine ⟨_, _, rfl, .any, ?_⟩ | refine ⟨_, _, rfl, .nil, ?_⟩ | refine ⟨_, _, rfl, .int (by first | rfl | omega | (simp only [wrs]; omega)), ?_⟩ | refine ⟨_, _, rfl, .int (by simp only [List.length_map]), ?_⟩ | refine ⟨?_, ?_⟩))
                      · skip
                        repeat (first | exact LeFr.nil | ((conv => whnf); first | exact True.intro | refine ⟨.rfl, ?_⟩ | refine ⟨_, _, rfl, rfl, ?_, ?_⟩))
                  · skip
                    conv => whnf
                    refine ⟨1, hw, Nat.le_of_ble_eq_true rfl, ?_⟩
                    conv => whnf
                    by_cases hE : takeE i t b (i + q, tm t a q) ((a.drop q).take (max x.N 0).toNat) = 0
                    · skip
                      conv => whnf
                      refine CallG.mk (takeY_X _ _ _ _ hJ.lb hJ.la (by omega) hj hE) rfl ?_
                      conv => whnf
                      refine ⟨rfl, ?_⟩
                      conv => whnf
                      simp (disch := omega) only [wz, Int.reduceAdd, Int.reduceSub, Int.reduceMul, Int.reduceNeg, Int.zero_add, Int.add_zero, Int.sub_zero, Int.sub_self]
                      conv => whnf
                      refine ⟨1, hw, Nat.le_of_ble_eq_true rfl, ?_⟩
                      conv => whnf
                      have hJ' := hJ.t10 (by omega) hj hE
                      refine XT.weak ⟨?_, ?_, ?_⟩ (chk _ _ _ _ _ hJ')
                      · skip
                        repeat ((conv => whnf); first | exact True.intro | refine ⟨.rfl, ?_⟩ | refine ⟨.any, ?_⟩ | refine ⟨.nil, ?_⟩ | refine ⟨.int (by first | rfl | omega | (simp only [wrs]; omega)), ?_⟩ | refine ⟨.int (by simp only [List.length_map]), ?_⟩)
                      · skip
                        repeat (first | exact LeVs.nil | ((conv => whnf); first | exact True.intro | exact .none | exact .row rfl | refine .cells ?_ | refine ⟨_, _, rfl, .rfl, ?_⟩ | refine ⟨_, _, rfl, .any, ?_⟩ | refine ⟨_, _, rfl, .nil, ?_⟩ | refine ⟨_, _, rfl, .int (by first | rfl | omega | (simp only [wrs]; omega)), ?_⟩ | refine ⟨_, _, rfl, .int (by simp only [List.length_map]), ?_⟩ | refine ⟨?_, ?_⟩))
                      · skip
                        repeat (first | exact LeFr.nil | ((conv => whnf); first | exact True.intro | refine ⟨.rfl, ?_⟩ | refine ⟨_, _, rfl, rfl, ?_, ?_⟩))
                    · skip
                      conv => whnf
                      refine CallG.mk (takeN_X _ _ _ _ hJ.lb hJ.la (by omega) hj hE) rfl ?_
                      conv => whnf
                      refine ⟨rfl, ?_⟩
                      conv => whnf
                      rw [show (decide (takeE i t b (i + (↑q : Int), tm t a q) (List.take (max x.N 0).toNat (List.drop q a)) = 0)) = false from decide_eq_false (by omega)]
                      conv => whnf
                      have hJ' := hJ.mono (m' := (k : Int) + 1) (by omega)
                      refine XT.weak ⟨?_, ?_, ?_⟩ (chk _ _ _ _ _ hJ')
                      · skip
                        repeat ((conv => whnf); first | exact True.intro | refine ⟨.rfl, ?_⟩ | refine ⟨.any, ?_⟩ | refine ⟨.nil, ?_⟩ | refine ⟨.int (by first | rfl | omega | (simp only [wrs]; omega)), ?_⟩ | refine ⟨.int (by simp only [List.length_map]), ?_⟩)
                      · skip
                        repeat (first | exact LeVs.nil | ((conv => whnf); first | exact True.intro | exact .none | exact .row rfl | refine .cells ?_ | refine ⟨_, _, rfl, .rfl, ?_⟩ | refine ⟨_, _, rfl, .any, ?_⟩ | refine ⟨_, _, rfl, .nil, ?_⟩ | refine ⟨_, _, rfl, .int (by first | rfl | omega | (simp only [wrs]; omega)), ?_⟩ | refine ⟨_, _, rfl, .int (by simp only [List.length_map]), ?_⟩ | refine ⟨?_, ?_⟩))
                      · skip
                        repeat (first | exact LeFr.nil | ((conv => whnf); first | exact True.intro | refine ⟨.rfl, ?_⟩ | refine ⟨_, _, rfl, rfl, ?_, ?_⟩))
                  · skip
                    conv => whnf
                    refine ⟨2, hw, Nat.le_of_ble_eq_true rfl, ?_⟩
                    conv => whnf
                    by_cases hE : takeE i t c (i + q, tm t a q) ((a.drop q).take (max x.N 0).toNat) = 0
                    · skip
                      conv => whnf
                      refine CallG.mk (takeY_X _ _ _ _ hJ.lc hJ.la (by omega) hj hE) rfl ?_
                      conv => whnf
                      refine ⟨rfl, ?_⟩
                      conv => whnf
                      simp (disch := omega) only [wz, Int.reduceAdd, Int.reduceSub, Int.reduceMul, Int.reduceNeg, Int.zero_add, Int.add_zero, Int.sub_zero, Int.sub_self]
                      conv => whnf
                      refine ⟨2, hw, Nat.le_of_ble_eq_true rfl, ?_⟩
                      conv => whnf
                      have hJ' := hJ.t20 (by omega) hj hE
                      refine XT.weak ⟨?_, ?_, ?_⟩ (chk _ _ _ _ _ hJ')
                      · skip
                        repeat ((conv => whnf); first | exact True.intro | refine ⟨.rfl, ?_⟩ | refine ⟨.any, ?_⟩ | refine ⟨.nil, ?_⟩ | refine ⟨.int (by first | rfl | omega | (simp only [wrs]; omega)), ?_⟩ | refine ⟨.int (by simp only [List.length_map]), ?_⟩)
                      · skip
                        repeat (first | exact LeVs.nil | ((conv => whnf); first | exact True.intro | exact .none | exact .row rfl | refine .cells ?_ | refine ⟨_, _, rfl, .rfl, ?_⟩ | refine ⟨_, _, rfl, .any, ?_⟩ | refine ⟨_, _, rfl, .nil, ?_⟩ | refine ⟨_, _, rfl, .int (by first | rfl | omega | (simp only [wrs]; omega)), ?_⟩ | refine ⟨_, _, rfl, .int (by simp only [List.length_map]), ?_⟩ | refine ⟨?_, ?_⟩))
                      · skip
                        repeat (first | exact LeFr.nil | ((conv => whnf); first | exact True.intro | refine ⟨.rfl, ?_⟩ | refine ⟨_, _, rfl, rfl, ?_, ?_⟩))
                    · skip
                      conv => whnf
                      refine CallG.mk (takeN_X _ _ _ _ hJ.lc hJ.la (by omega) hj hE) rfl ?_
                      conv => whnf
                      refine ⟨rfl, ?_⟩
                      conv => whnf
                      rw [show (decide (takeE i t c (i + (↑q : Int), tm t a q) (List.take (max x.N 0).toNat (List.drop q a)) = 0)) = false from decide_eq_false (by omega)]
                      conv => whnf
                      have hJ' := hJ.mono (m' := (k : Int) + 1) (by omega)
                      refine XT.weak ⟨?_, ?_, ?_⟩ (chk _ _ _ _ _ hJ')
                      · skip
                        repeat ((conv => whnf); first | exact True.intro | refine ⟨.rfl, ?_⟩ | refine ⟨.any, ?_⟩ | refine ⟨.nil, ?_⟩ | refine ⟨.int (by first | rfl | omega | (simp only [wrs]; omega)), ?_⟩ | refine ⟨.int (by simp only [List.length_map]), ?_⟩)
                      · skip
                        repeat (first | exact LeVs.nil | ((conv => whnf); first | exact True.intro | exact .none | exact .row rfl | refine .cells ?_ | refine ⟨_, _, rfl, .rfl, ?_⟩ | refine ⟨_, _, rfl, .any, ?_⟩ | refine ⟨_, _, rfl, .nil, ?_⟩ | refine ⟨_, _, rfl, .int (by first | rfl | omega | (simp only [wrs]; omega)), ?_⟩ | refine ⟨_, _, rfl, .int (by simp only [List.length_map]), ?_⟩ | refine ⟨?_, ?_⟩))
                      · skip
                        repeat (first | exact LeFr.nil | ((conv => whnf); first | exact True.intro | refine ⟨.rfl, ?_⟩ | refine ⟨_, _, rfl, rfl, ?_, ?_⟩))
                · skip
                  conv => whnf
                  refine CallG.mk (fromB_X _ _ hJ.la (by omega) hq16 (by simp (disch := omega) only [wz, hq]; try omega) (by omega) (by omega) hfE hfL) rfl ?_
                  conv => whnf
                  refine ⟨rfl, ?_⟩
                  conv => whnf
                  refine ⟨(k + 1, i, t, a, b, c), ⟨by omega, by omega, (hJ.mono (by omega)).nat⟩, (show acts.length - (k + 1) < acts.length - k by omega), ?_⟩
                  refine ⟨?_, ?_, ?_⟩
                  · skip
                    repeat ((conv => whnf); first | exact True.intro | refine ⟨.rfl, ?_⟩ | refine ⟨.any, ?_⟩ | refine ⟨.nil, ?_⟩ | refine ⟨.int (by first | rfl | omega | (simp only [wrs]; omega)), ?_⟩ | refine ⟨.int (by simp only [List.length_map]), ?_⟩)
                  · skip
                    repeat (first | exact LeVs.nil | ((conv => whnf); first | exact True.intro | exact .none | exact .row rfl | refine .cells ?_ | refine ⟨_, _, rfl, .rfl, ?_⟩ | refine ⟨_, _, rfl, .any, ?_⟩ | refine ⟨_, _, rfl, .nil, ?_⟩ | refine ⟨_, _, rfl, .int (by first | rfl | omega | (simp only [wrs]; omega)), ?_⟩ | refine ⟨_, _, rfl, .int (by simp only [List.length_map]), ?_⟩ | refine ⟨?_, ?_⟩))
                  · skip
                    repeat (first | exact LeFr.nil | ((conv => whnf); first | exact True.intro | refine ⟨.rfl, ?_⟩ | refine ⟨_, _, rfl, rfl, ?_, ?_⟩))
              · skip
                conv => whnf
                refine ⟨1, hv, Nat.le_of_ble_eq_true rfl, ?_⟩
                conv => whnf
                refine RegG.latea 16 [] (by kernel_rfl) ?_
                conv => whnf
                rw [show IntKind.u64.wrap (i + 1) = (i + 1) from wz.2.1 _ (by omega) (by omega)]
                conv => whnf
                rw [show IntKind.u64.wrap (i + 1 + x.I.tmod 17) = (i + 1 + x.I.tmod 17) from wz.2.1 _ (by omega) (by omega)]
                conv => whnf
                refine ⟨1, hv, Nat.le_of_ble_eq_true rfl, ?_⟩
                conv => whnf
                rcases from_is hJ.lb (by omega) q (n := max x.N 0) (by omega) with ⟨hj, hfE, hfA, hfL⟩ | ⟨hj, hfE, hfL⟩
                · skip
                  conv => whnf
                  refine CallG.mk (fromA_X _ _ hJ.lb (by omega) hj (by simp (disch := omega) only [wz, hq]; try omega) (by omega) (by omega) hfE hfA hfL) rfl ?_
                  conv => whnf
                  refine ⟨rfl, ?_⟩
                  conv => whnf
                  refine RegG.latea 14 [] (by kernel_rfl) ?_
                  conv => whnf
                  rcases hW with hw | hw | hw
                  · skip
                    conv => whnf
                    refine ⟨0, hw, Nat.le_of_ble_eq_true rfl, ?_⟩
                    conv => whnf
                    by_cases hE : takeE i t a (i + q, tm t b q) ((b.drop q).take (max x.N 0).toNat) = 0
                    · skip
                      conv => whnf
                      refine CallG.mk (takeY_X _ _ _ _ hJ.la hJ.lb (by omega) hj hE) rfl ?_
                      conv => whnf
                      refine ⟨rfl, ?_⟩
                      conv => whnf
                      simp (disch := omega) only [wz, Int.reduceAdd, Int.reduceSub, Int.reduceMul, Int.reduceNeg, Int.zero_add, Int.add_zero, Int.sub_zero, Int.sub_self]
                      conv => whnf
                      refine ⟨0, hw, Nat.le_of_ble_eq_true rfl, ?_⟩
                      conv => whnf
                      have hJ' := hJ.t01 (by omega) hj hE
                      refine XT.weak ⟨?_, ?_, ?_⟩ (chk _ _ _ _ _ hJ')
                      · skip
                        repeat ((conv => whnf); first | exact True.intro | refine ⟨.rfl, ?_⟩ | refine ⟨.any, ?_⟩ | refine ⟨.nil, ?_⟩ | refine ⟨.int (by first | rfl | omega | (simp only [wrs]; omega)), ?_⟩ | refine ⟨.int (by simp only [List.length_map]), ?_⟩)
                      · skip
                        repeat (first | exact LeVs.nil | ((conv => whnf); first | exact True.intro | exact .none | exact .row rfl | refine .cells ?_ | refine ⟨_, _, rfl, .rfl, ?_⟩ | refine ⟨_, _, rfl, .any, ?_⟩ | refine ⟨_, _, rfl, .nil, ?_⟩ | refine ⟨_, _, rfl, .int (by first | rfl | omega | (simp only [wrs]; omega)), ?_⟩ | refine ⟨_, _, rfl, .int (by simp only [List.length_map]), ?_⟩ | refine ⟨?_, ?_⟩))
                      · skip
                        repeat (first | exact LeFr.nil | ((conv => whnf); first | exact True.intro | refine ⟨.rfl, ?_⟩ | refine ⟨_, _, rfl, rfl, ?_, ?_⟩))
                    · skip
                      conv => whnf
                      refine CallG.mk (takeN_X _ _ _ _ hJ.la hJ.lb (by omega) hj hE) rfl ?_
                      conv => whnf
                      refine ⟨rfl, ?_⟩
                      conv => whnf
                      rw [show (decide (takeE i t a (i + (↑q : Int), tm t b q) (List.take (max x.N 0).toNat (List.drop q b)) = 0)) = false from decide_eq_false (by omega)]
                      conv => whnf
                      have hJ' := hJ.mono (m' := (k : Int) + 1) (by omega)
                      refine XT.weak ⟨?_, ?_, ?_⟩ (chk _ _ _ _ _ hJ')
                      · skip
                        repeat ((conv => whnf); first | exact True.intro | refine ⟨.rfl, ?_⟩ | refine ⟨.any, ?_⟩ | refine ⟨.nil, ?_⟩ | refine ⟨.int (by first | rfl | omega | (simp only [wrs]; omega)), ?_⟩ | refine ⟨.int (by simp only [List.length_map]), ?_⟩)
                      · skip
                        repeat (first | exact LeVs.nil | ((conv => whnf); first | exact True.intro | exact .none | exact .row rfl | refine .cells ?_ | refine ⟨_, _, rfl, .rfl, ?_⟩ | refine ⟨_, _, rfl, .any, ?_⟩ | refine ⟨_, _, rfl, .nil, ?_⟩ | refine ⟨_, _, rfl, .int (by first | rfl | omega | (simp only [wrs]; omega)), ?_⟩ | refine ⟨_, _, rfl, .int (by simp only [List.length_map]), ?_⟩ | refine ⟨?_, ?_⟩))
                      · skip
                        repeat (first | exact LeFr.nil | ((conv => whnf); first | exact True.intro | refine ⟨.rfl, ?_⟩ | refine ⟨_, _, rfl, rfl, ?_, ?_⟩))
                  · skip
                    conv => whnf
                    refine ⟨1, hw, Nat.le_of_ble_eq_true rfl, ?_⟩
                    conv => whnf
                    by_cases hE : takeE i t b (i + q, tm t b q) ((b.drop q).take (max x.N 0).toNat) = 0
                    · skip
                      conv => whnf
                      refine CallG.mk (takeY_X _ _ _ _ hJ.lb hJ.lb (by omega) hj hE) rfl ?_
                      conv => whnf
                      refine ⟨rfl, ?_⟩
                      conv => whnf
                      simp (disch := omega) only [wz, Int.reduceAdd, Int.reduceSub, Int.reduceMul, Int.reduceNeg, Int.zero_add, Int.add_zero, Int.sub_zero, Int.sub_self]
                      conv => whnf
                      refine ⟨1, hw, Nat.le_of_ble_eq_true rfl, ?_⟩
                      conv => whnf
                      have hJ' := hJ.t11 (by omega) hj hE
                      refine XT.weak ⟨?_, ?_, ?_⟩ (chk _ _ _ _ _ hJ')
                      · skip
                        repeat ((conv => whnf); first | exact True.intro | refine ⟨.rfl, ?_⟩ | refine ⟨.any, ?_⟩ | refine ⟨.nil, ?_⟩ | refine ⟨.int (by first | rfl | omega | (simp only [wrs]; omega)), ?_⟩ | refine ⟨.int (by simp only [List.length_map]), ?_⟩)
                      · skip
                        repeat (first | exact LeVs.nil | ((conv => whnf); first | exact True.intro | exact .none | exact .row rfl | refine .cells ?_ | refine ⟨_, _, rfl, .rfl, ?_⟩ | refine ⟨_, _, rfl, .any, ?_⟩ | refine ⟨_, _, rfl, .nil, ?_⟩ | refine ⟨_, _, rfl, .int (by first | rfl | omega | (simp only [wrs]; omega)), ?_⟩ | refine ⟨_, _, rfl, .int (by simp only [List.length_map]), ?_⟩ | refine ⟨?_, ?_⟩))
                      · skip
                        repeat (first | exact LeFr.nil | ((conv => whnf); first | exact True.intro | refine ⟨.rfl, ?_⟩ | refine ⟨_, _, rfl, rfl, ?_, ?_⟩))
                    · skip
                      conv => whnf
                      refine CallG.mk (takeN_X _ _ _ _ hJ.lb hJ.lb (by omega) hj hE) rfl ?_
                      conv => whnf
                      refine ⟨rfl, ?_⟩
                      conv => whnf
                      rw [show (decide (takeE i t b (i + (↑q : Int), tm t b q) (List.take (max x.N 0).toNat (List.drop q b)) = 0)) = false from decide_eq_false (by omega)]
                      conv => whnf
                      have hJ' := hJ.mono (m' := (k : Int) + 1) (by omega)
                      refine XT.weak ⟨?_, ?_, ?_⟩ (chk _ _ _ _ _ hJ')
                      · skip
                        repeat ((conv => whnf); first | exact True.intro | refine ⟨.rfl, ?_⟩ | refine ⟨.any, ?_⟩ | refine ⟨.nil, ?_⟩ | refine ⟨.int (by first | rfl | omega | (simp only [wrs]; omega)), ?_⟩ | refine ⟨.int (by simp only [List.length_map]), ?_⟩)
                      · skip
                        repeat (first | exact LeVs.nil | ((conv => whnf); first | exact True.intro | exact .none | exact .row rfl | refine .cells ?_ | refine ⟨_, _, rfl, .rfl, ?_⟩ | refine ⟨_, _, rfl, .any, ?_⟩ | refine ⟨_, _, rfl, .nil, ?_⟩ | refine ⟨_, _, rfl, .int (by first | rfl | omega | (simp only [wrs]; omega)), ?_⟩ | refine ⟨_, _, rfl, .int (by simp only [List.length_map]), ?_⟩ | refine ⟨?_, ?_⟩))
                      · skip
                        repeat (first | exact LeFr.nil | ((conv => whnf); first | exact True.intro | refine ⟨.rfl, ?_⟩ | refine ⟨_, _, rfl, rfl, ?_, ?_⟩))
                  · skip
                    conv => whnf
                    refine ⟨2, hw, Nat.le_of_ble_eq_true rfl, ?_⟩
                    conv => whnf
                    by_cases hE : takeE i t c (i + q, tm t b q) ((b.drop q).take (max x.N 0).toNat) = 0
                    · skip
                      conv => whnf
                      refine CallG.mk (takeY_X _ _ _ _ hJ.lc hJ.lb (by omega) hj hE) rfl ?_
                      conv => whnf
                      refine ⟨rfl, ?_⟩
                      conv => whnf
                      simp (disch := omega) only [wz, Int.reduceAdd, Int.reduceSub, Int.reduceMul, Int.reduceNeg, Int.zero_add, Int.add_zero, Int.sub_zero, Int.sub_self]
                      conv => whnf
                      refine ⟨2, hw, Nat.le_of_ble_eq_true rfl, ?_⟩
                      conv => whnf
                      have hJ' := hJ.t21 (by omega) hj hE
                      refine XT.weak ⟨?_, ?_, ?_⟩ (chk _ _ _ _ _ hJ')
                      · skip
                        repeat ((conv => whnf); first | exact True.intro | refine ⟨.rfl, ?_⟩ | refine ⟨.any, ?_⟩ | refine ⟨.nil, ?_⟩ | refine ⟨.int (by first | rfl | omega | (simp only [wrs]; omega)), ?_⟩ | refine ⟨.int (by simp only [List.length_map]), ?_⟩)
                      · skip
                        repeat (first | exact LeVs.nil | ((conv => whnf); first | exact True.intro | exact .none | exact .row rfl | refine .cells ?_ | refine ⟨_, _, rfl, .rfl, ?_⟩ | refine ⟨_, _, rfl, .any, ?_⟩ | refine ⟨_, _, rfl, .nil, ?_⟩ | refine ⟨_, _, rfl, .int (by first | rfl | omega | (simp only [wrs]; omega)), ?_⟩ | refine ⟨_, _, rfl, .int (by simp only [List.length_map]), ?_⟩ | refine ⟨?_, ?_⟩))
                      · skip
                        repeat (first | exact LeFr.nil | ((conv => whnf); first | exact True.intro | refine ⟨.rfl, ?_⟩ | refine ⟨_, _, rfl, rfl, ?_, ?_⟩))
                    · skip
                      conv => whnf
                      refine CallG.mk (takeN_X _ _ _ _ hJ.lc hJ.lb (by omega) hj hE) rfl ?_
                      conv => whnf
                      refine ⟨rfl, ?_⟩
                      conv => whnf
                      rw [show (decide (takeE i t c (i + (↑q : Int), tm t b q) (List.take (max x.N 0).toNat (List.drop q b)) = 0)) = false from decide_eq_false (by omega)]
                      conv => whnf
                      have hJ' := hJ.mono (m' := (k : Int) + 1) (by omega)
                      refine XT.weak ⟨?_, ?_, ?_⟩ (chk _ _ _ _ _ hJ')
                      · skip
                        repeat ((conv => whnf); first | exact True.intro | refine ⟨.rfl, ?_⟩ | refine ⟨.any, ?_⟩ | refine ⟨.nil, ?_⟩ | refine ⟨.int (by first | rfl | omega | (simp only [wrs]; omega)), ?_⟩ | refine ⟨.int (by simp only [List.length_map]), ?_⟩)
                      · skip
                        repeat (first | exact LeVs.nil | ((conv => whnf); first | exact True.intro | exact .none | exact .row rfl | refine .cells ?_ | refine ⟨_, _, rfl, .rfl, ?_⟩ | refine ⟨_, _, rfl, .any, ?_⟩ | refine ⟨_, _, rfl, .nil, ?_⟩ | refine ⟨_, _, rfl, .int (by first | rfl | omega | (simp only [wrs]; omega)), ?_⟩ | refine ⟨_, _, rfl, .int (by simp only [List.length_map]), ?_⟩ | refine ⟨?_, ?_⟩))
                      · skip
                        repeat (first | exact LeFr.nil | ((conv => whnf); first | exact True.intro | refine ⟨.rfl, ?_⟩ | refine ⟨_, _, rfl, rfl, ?_, ?_⟩))
                · skip
                  conv => whnf
                  refine CallG.mk (fromB_X _ _ hJ.lb (by omega) hq16 (by simp (disch := omega) only [wz, hq]; try omega) (by omega) (by omega) hfE hfL) rfl ?_
                  conv => whnf
                  refine ⟨rfl, ?_⟩
                  conv => whnf
                  refine ⟨(k + 1, i, t, a, b, c), ⟨by omega, by omega, (hJ.mono (by omega)).nat⟩, (show acts.length - (k + 1) < acts.length - k by omega), ?_⟩
                  refine ⟨?_, ?_, ?_⟩
                  · skip
                    repeat ((conv => whnf); first | exact True.intro | refine ⟨.rfl, ?_⟩ | refine ⟨.any, ?_⟩ | refine ⟨.nil, ?_⟩ | refine ⟨.int (by first | rfl | omega | (simp only [wrs]; omega)), ?_⟩ | refine ⟨.int (by simp only [List.length_map]), ?_⟩)
                  · skip
                    repeat (first | exact LeVs.nil | ((conv => whnf); first | exact True.intro | exact .none | exact .row rfl | refine .cells ?_ | refine ⟨_, _, rfl, .rfl, ?_⟩ | refine ⟨_, _, rfl, .any, ?_⟩ | refine ⟨_, _, rfl, .nil, ?_⟩ | refine ⟨_, _, rfl, .int (by first | rfl | omega | (simp only [wrs]; omega)), ?_⟩ | refine ⟨_, _, rfl, .int (by simp only [List.length_map]), ?_⟩ | refine ⟨?_, ?_⟩))
                  · skip
                    repeat (first | exact LeFr.nil | ((conv => whnf); first | exact True.intro | refine ⟨.rfl, ?_⟩ | refine ⟨_, _, rfl, rfl, ?_, ?_⟩))
              · skip
                conv => whnf
                refine ⟨2, hv, Nat.le_of_ble_eq_true rfl, ?_⟩
                conv => whnf
                refine RegG.latea 16 [] (by kernel_rfl) ?_
                conv => whnf
                rw [show IntKind.u64.wrap (i + 1) = (i + 1) from wz.2.1 _ (by omega) (by omega)]
                conv => whnf
                rw [show IntKind.u64.wrap (i + 1 + x.I.tmod 17) = (i + 1 + x.I.tmod 17) from wz.2.1 _ (by omega) (by omega)]
                conv => whnf
                refine ⟨2, hv, Nat.le_of_ble_eq_true rfl, ?_⟩
                conv => whnf
                rcases from_is hJ.lc (by omega) q (n := max x.N 0) (by omega) with ⟨hj, hfE, hfA, hfL⟩ | ⟨hj, hfE, hfL⟩
                · skip
                  conv => whnf
                  refine CallG.mk (fromA_X _ _ hJ.lc (by omega) hj (by simp (disch := omega) only [wz, hq]; try omega) (by omega) (by omega) hfE hfA hfL) rfl ?_
                  conv => whnf
                  refine ⟨rfl, ?_⟩
                  conv => whnf
                  refine RegG.latea 14 [] (by kernel_rfl) ?_
                  conv => whnf
                  rcases hW with hw | hw | hw
                  · skip
                    conv => whnf
                    refine ⟨0, hw, Nat.le_of_ble_eq_true rfl, ?_⟩
                    conv => whnf
                    by_cases hE : takeE i t a (i + q, tm t c q) ((c.drop q).take (max x.N 0).toNat) = 0
                    · skip
                      conv => whnf
                      refine CallG.mk (takeY_X _ _ _ _ hJ.la hJ.lc (by omega) hj hE) rfl ?_
                      conv => whnf
                      refine ⟨rfl, ?_⟩
                      conv => whnf
                      simp (disch := omega) only [wz, Int.reduceAdd, Int.reduceSub, Int.reduceMul, Int.reduceNeg, Int.zero_add, Int.add_zero, Int.sub_zero, Int.sub_self]
                      conv => whnf
                      refine ⟨0, hw, Nat.le_of_ble_eq_true rfl, ?_⟩
                      conv => whnf
                      have hJ' := hJ.t02 (by omega) hj hE
                      refine XT.weak ⟨?_, ?_, ?_⟩ (chk _ _ _ _ _ hJ')
                      · skip
                        repeat ((conv => whnf); first | exact True.intro | refine ⟨.rfl, ?_⟩ | refine ⟨.any, ?_⟩ | refine ⟨.nil, ?_⟩ | refine ⟨.int (by first | rfl | omega | (simp only [wrs]; omega)), ?_⟩ | refine ⟨.int (by simp only [List.length_map]), ?_⟩)
                      · skip
                        repeat (first | exact LeVs.nil | ((conv => whnf); first | exact True.intro | exact .none | exact .row rfl | refine .cells ?_ | refine ⟨_, _, rfl, .rfl, ?_⟩ | refine ⟨_, _, rfl, .any, ?_⟩ | refine ⟨_, _, rfl, .nil, ?_⟩ | refine ⟨_, _, rfl, .int (by first | rfl | omega | (simp only [wrs]; omega)), ?_⟩ | refine ⟨_, _, rfl, .int (by simp only [List.length_map]), ?_⟩ | refine ⟨?_, ?_⟩))
                      · skip
                        repeat (first | exact LeFr.nil | ((conv => whnf); first | exact True.intro | refine ⟨.rfl, ?_⟩ | refine ⟨_, _, rfl, rfl, ?_, ?_⟩))
                    · skip
                      conv => whnf
                      refine CallG.mk (takeN_X _ _ _ _ hJ.la hJ.lc (by omega) hj hE) rfl ?_
                      conv => whnf
                      refine ⟨rfl, ?_⟩
                      conv => whnf
                      rw [show (decide (takeE i t a (i + (↑q : Int), tm t c q) (List.take (max x.N 0).toNat (List.drop q c)) = 0)) = false from decide_eq_false (by omega)]
                      conv => whnf
                      have hJ' := hJ.mono (m' := (k : Int) + 1) (by omega)
                      refine XT.weak ⟨?_, ?_, ?_⟩ (chk _ _ _ _ _ hJ')
                      · skip
                        repeat ((conv => whnf); first | exact True.intro | refine ⟨.rfl, ?_⟩ | refine ⟨.any, ?_⟩ | refine ⟨.nil, ?_⟩ | refine ⟨.int (by first | rfl | omega | (simp only [wrs]; omega)), ?_⟩ | refine ⟨.int (by simp only [List.length_map]), ?_⟩)
                      · skip
                        repeat (first | exact LeVs.nil | ((conv => whnf); first | exact True.intro | exact .none | exact .row rfl | refine .cells ?_ | refine ⟨_, _, rfl, .rfl, ?_⟩ | refine ⟨_, _, rfl, .any, ?_⟩ | refine ⟨_, _, rfl, .nil, ?_⟩ | refine ⟨_, _, rfl, .int (by first | rfl | omega | (simp only [wrs]; omega)), ?_⟩ | refine ⟨_, _, rfl, .int (by simp only [List.length_map]), ?_⟩ | refine ⟨?_, ?_⟩))
                      · skip
                        repeat (first | exact LeFr.nil | ((conv => whnf); first | exact True.intro | refine ⟨.rfl, ?_⟩ | refine ⟨_, _, rfl, rfl, ?_, ?_⟩))
                  · skip
                    conv => whnf
                    refine ⟨1, hw, Nat.le_of_ble_eq_true rfl, ?_⟩
                    conv => whnf
                    by_cases hE : takeE i t b (i + q, tm t c q) ((c.drop q).take (max x.N 0).toNat) = 0
                    · skip
                      conv => whnf
                      refine CallG.mk (takeY_X _ _ _ _ hJ.lb hJ.lc (by omega) hj hE) rfl ?_
                      conv => whnf
                      refine ⟨rfl, ?_⟩
                      conv => whnf
                      simp (disch := omega) only [wz, Int.reduceAdd, Int.reduceSub, Int.reduceMul, Int.reduceNeg, Int.zero_add, Int.add_zero, Int.sub_zero, Int.sub_self]
                      conv => whnf
                      refine ⟨1, hw, Nat.le_of_ble_eq_true rfl, ?_⟩
                      conv => whnf
                      have hJ' := hJ.t12 (by omega) hj hE
                      refine XT.weak ⟨?_, ?_, ?_⟩ (chk _ _ _ _ _ hJ')
                      · skip
                        repeat ((conv => whnf); first | exact True.intro | refine ⟨.rfl, ?_⟩ | refine ⟨.any, ?_⟩ | refine ⟨.nil, ?_⟩ | refine ⟨.int (by first | rfl | omega | (simp only [wrs]; omega)), ?_⟩ | refine ⟨.int (by simp only [List.length_map]), ?_⟩)
                      · skip
                        repeat (first | exact LeVs.nil | ((conv => whnf); first | exact True.intro | exact .none | exact .row rfl | refine .cells ?_ | refine ⟨_, _, rfl, .rfl, ?_⟩ | refine ⟨_, _, rfl, .any, ?_⟩ | refine ⟨_, _, rfl, .nil, ?_⟩ | refine ⟨_, _, rfl, .int (by first | rfl | omega | (simp only [wrs]; omega)), ?_⟩ | refine ⟨_, _, rfl, .int (by simp only [List.length_map]), ?_⟩ | refine ⟨?_, ?_⟩))
                      · skip
                        repeat (first | exact LeFr.nil | ((conv => whnf); first | exact True.intro | refine ⟨.rfl, ?_⟩ | refine ⟨_, _, rfl, rfl, ?_, ?_⟩))
                    · skip
                      conv => whnf
                      refine CallG.mk (takeN_X _ _ _ _ hJ.lb hJ.lc (by omega) hj hE) rfl ?_
                      conv => whnf
                      refine ⟨rfl, ?_⟩
                      conv => whnf
                      rw [show (decide (takeE i t b (i + (↑q : Int), tm t c q) (List.take (max x.N 0).toNat (List.drop q c)) = 0)) = false from decide_eq_false (by omega)]
                      conv => whnf
                      have hJ' := hJ.mono (m' := (k : Int) + 1) (by omega)
                      refine XT.weak ⟨?_, ?_, ?_⟩ (chk _ _ _ _ _ hJ')
                      · skip
                        repeat ((conv => whnf); first | exact True.intro | refine ⟨.rfl, ?_⟩ | refine ⟨.any, ?_⟩ | refine ⟨.nil, ?_⟩ | refine ⟨.int (by first | rfl | omega | (simp only [wrs]; omega)), ?_⟩ | refine ⟨.int (by simp only [List.length_map]), ?_⟩)
                      · skip
                        repeat (first | exact LeVs.nil | ((conv => whnf); first | exact True.intro | exact .none | exact .row rfl | refine .cells ?_ | refine ⟨_, _, rfl, .rfl, ?_⟩ | refine ⟨_, _, rfl, .any, ?_⟩ | refine ⟨_, _, rfl, .nil, ?_⟩ | refine ⟨_, _, rfl, .int (by first | rfl | omega | (simp only [wrs]; omega)), ?_⟩ | refine ⟨_, _, rfl, .int (by simp only [List.length_map]), ?_⟩ | refine ⟨?_, ?_⟩))
                      · skip
                        repeat (first | exact LeFr.nil | ((conv => whnf); first | exact True.intro | refine ⟨.rfl, ?_⟩ | refine ⟨_, _, rfl, rfl, ?_, ?_⟩))
                  · skip
                    conv => whnf
                    refine ⟨2, hw, Nat.le_of_ble_eq_true rfl, ?_⟩
                    conv => whnf
                    by_cases hE : takeE i t c (i + q, tm t c q) ((c.drop q).take (max x.N 0).toNat) = 0
                    · skip
                      conv => whnf
                      refine CallG.mk (takeY_X _ _ _ _ hJ.lc hJ.lc (by omega) hj hE) rfl ?_
                      conv => whnf
                      refine ⟨rfl, ?_⟩
                      conv => whnf
                      simp (disch := omega) only [wz, Int.reduceAdd, Int.reduceSub, Int.reduceMul, Int.reduceNeg, Int.zero_add, Int.add_zero, Int.sub_zero, Int.sub_self]
                      conv => whnf
                      refine ⟨2, hw, Nat.le_of_ble_eq_true rfl, ?_⟩
                      conv => whnf
                      have hJ' := hJ.t22 (by omega) hj hE
                      refine XT.weak ⟨?_, ?_, ?_⟩ (chk _ _ _ _ _ hJ')
                      · skip
                        repeat ((conv => whnf); first | exact True.intro | refine ⟨.rfl, ?_⟩ | refine ⟨.any, ?_⟩ | refine ⟨.nil, ?_⟩ | refine ⟨.int (by first | rfl | omega | (simp only [wrs]; omega)), ?_⟩ | refine ⟨.int (by simp only [List.length_map]), ?_⟩)
                      · skip
                        repeat (first | exact LeVs.nil | ((conv => whnf); first | exact True.intro | exact .none | exact .row rfl | refine .cells ?_ | refine ⟨_, _, rfl, .rfl, ?_⟩ | refine ⟨_, _, rfl, .any, ?_⟩ | refine ⟨_, _, rfl, .nil, ?_⟩ | refine ⟨_, _, rfl, .int (by first | rfl | omega | (simp only [wrs]; omega)), ?_⟩ | refine ⟨_, _, rfl, .int (by simp only [List.length_map]), ?_⟩ | refine ⟨?_, ?_⟩))
                      · skip
                        repeat (first | exact LeFr.nil | ((conv => whnf); first | exact True.intro | refine ⟨.rfl, ?_⟩ | refine ⟨_, _, rfl, rfl, ?_, ?_⟩))
                    · skip
                      conv => whnf
                      refine CallG.mk (takeN_X _ _ _ _ hJ.lc hJ.lc (by omega) hj hE) rfl ?_
                      conv => whnf
                      refine ⟨rfl, ?_⟩
                      conv => whnf
                      rw [show (decide (takeE i t c (i + (↑q : Int), tm t c q) (List.take (max x.N 0).toNat (List.drop q c)) = 0)) = false from decide_eq_false (by omega)]
                      conv => whnf
                      have hJ' := hJ.mono (m' := (k : Int) + 1) (by omega)
                      refine XT.weak ⟨?_, ?_, ?_⟩ (chk _ _ _ _ _ hJ')
                      · skip
                        repeat ((conv => whnf); first | exact True.intro | refine ⟨.rfl, ?_⟩ | refine ⟨.any, ?_⟩ | refine ⟨.nil, ?_⟩ | refine ⟨.int (by first | rfl | omega | (simp only [wrs]; omega)), ?_⟩ | refine ⟨.int (by simp only [List.length_map]), ?_⟩)
                      · skip
                        repeat (first | exact LeVs.nil | ((conv => whnf); first | exact True.intro | exact .none | exact .row rfl | refine .cells ?_ | refine ⟨_, _, rfl, .rfl, ?_⟩ | refine ⟨_, _, rfl, .any, ?_⟩ | refine ⟨_, _, rfl, .nil, ?_⟩ | refine ⟨_, _, rfl, .int (by first | rfl | omega | (simp only [wrs]; omega)), ?_⟩ | refine ⟨_, _, rfl, .int (by simp only [List.length_map]), ?_⟩ | refine ⟨?_, ?_⟩))
                      · skip
                        repeat (first | exact LeFr.nil | ((conv => whnf); first | exact True.intro | refine ⟨.rfl, ?_⟩ | refine ⟨_, _, rfl, rfl, ?_, ?_⟩))
                · skip
                  conv => whnf
                  refine CallG.mk (fromB_X _ _ hJ.lc (by omega) hq16 (by simp (disch := omega) only [wz, hq]; try omega) (by omega) (by omega) hfE hfL) rfl ?_
                  conv => whnf
                  refine ⟨rfl, ?_⟩
                  conv => whnf
                  refine ⟨(k + 1, i, t, a, b, c), ⟨by omega, by omega, (hJ.mono (by omega)).nat⟩, (show acts.length - (k + 1) < acts.length - k by omega), ?_⟩
                  refine ⟨?_, ?_, ?_⟩
                  · skip
                    repeat ((conv => whnf); first | exact True.intro | refine ⟨.rfl, ?_⟩ | refine ⟨.any, ?_⟩ | refine ⟨.nil, ?_⟩ | refine ⟨.int (by first | rfl | omega | (simp only [wrs]; omega)), ?_⟩ | refine ⟨.int (by simp only [List.length_map]), ?_⟩)
                  · skip
                    repeat (first | exact LeVs.nil | ((conv => whnf); first | exact True.intro | exact .none | exact .row rfl | refine .cells ?_ | refine ⟨_, _, rfl, .rfl, ?_⟩ | refine ⟨_, _, rfl, .any, ?_⟩ | refine ⟨_, _, rfl, .nil, ?_⟩ | refine ⟨_, _, rfl, .int (by first | rfl | omega | (simp only [wrs]; omega)), ?_⟩ | refine ⟨_, _, rfl, .int (by simp only [List.length_map]), ?_⟩ | refine ⟨?_, ?_⟩))
                  · skip
                    repeat (first | exact LeFr.nil | ((conv => whnf); first | exact True.intro | refine ⟨.rfl, ?_⟩ | refine ⟨_, _, rfl, rfl, ?_, ?_⟩))
            · skip
              try simp only [bls] at hc2
              try simp (disch := omega) only [wz, Int.reduceAdd, Int.reduceSub, Int.reduceMul, Int.reduceNeg, Int.zero_add, Int.add_zero, Int.sub_zero, Int.sub_self] at hc2
              conv => whnf
              refine RegG.par 10 (by kernel_rfl) ?_
              conv => whnf
              rcases hW with hw | hw | hw
              · skip
                conv => whnf
                refine ⟨0, hw, Nat.le_of_ble_eq_true rfl, ?_⟩
                conv => whnf
                rw [show IntKind.u64.wrap (i + x.I.tmod 17) = (i + x.I.tmod 17) from wz.2.1 _ (by omega) (by omega)]
                conv => whnf
                refine ⟨0, hw, Nat.le_of_ble_eq_true rfl, ?_⟩
                conv => whnf
                rcases term_cases hJ.la q with ⟨hq2, hT⟩ | hT
                · skip
                  conv => whnf
                  refine .ct ?_
                  conv => whnf
                  refine CallG.mk (termQ_X _ _ hJ.la (by omega) (by simp (disch := omega) only [wz, hq]; try omega) hT) rfl ?_
                  conv => whnf
                  refine .ct ?_
                  conv => whnf
                  refine CallG.mk (common_X _ _ _ _ _ _ hJ (by omega) _ _) rfl ?_
                  conv => whnf
                  cases hc3 : ((hasB i t a (i + x.I.tmod 17) (tm t a q) && hasB i t b (i + x.I.tmod 17) (tm t a q) && hasB i t c (i + x.I.tmod 17) (tm t a q)))
                  · skip
                    try simp only [bls] at hc3
                    conv => whnf
                    refine ⟨(k + 1, i, t, a, b, c), ⟨by omega, by omega, (hJ.mono (by omega)).nat⟩, (show acts.length - (k + 1) < acts.length - k by omega), ?_⟩
                    refine ⟨?_, ?_, ?_⟩
                    · skip
                      repeat ((conv => whnf); first | exact True.intro | refine ⟨.rfl, ?_⟩ | refine ⟨.any, ?_⟩ | refine ⟨.nil, ?_⟩ | refine ⟨.int (by first | rfl | omega | (simp only [wrs]; omega)), ?_⟩ | refine ⟨.int (by simp only [List.length_map]), ?_⟩)
                    · skip
                      repeat (first | exact LeVs.nil | ((conv => whnf); first | exact True.intro | exact .none | exact .row rfl | refine .cells ?_ | refine ⟨_, _, rfl, .rfl, ?_⟩ | refine ⟨_, _, rfl, .any, ?_⟩ | refine ⟨_, _, rfl, .nil, ?_⟩ | refine ⟨_, _, rfl, .int (by first | rfl | omega | (simp only [wrs]; omega)), ?_⟩ | refine ⟨_, _, rfl, .int (by simp only [List.length_map]), ?_⟩ | refine ⟨?_, ?_⟩))
                    · skip
                      repeat (first | exact LeFr.nil | ((conv => whnf); first | exact True.intro | refine ⟨.rfl, ?_⟩ | refine ⟨_, _, rfl, rfl, ?_, ?_⟩))
                  · skip
                    try simp only [bls] at hc3
                    conv => whnf
                    obtain ⟨⟨qa, ta⟩, ⟨qb, tb⟩, qc, tc⟩ := com_at (q := q) hJ (by omega) (by assumption) (by rw [hq])
                    refine XT.loop tabX_ok (Y := Nat) [2, 14, 15, 16, 138, 139, 140, 141, 142, 143, 144, 145, 146, 147, 148, 149, 150, 151, 152, 153, 154] (fun r => [(138, .p (.v (.int .i64 (r : Int))) (nlv _))]) (fun r => [(0, .cells 40 (cutC r i t q (tm t a q) a b c))]) (fun r => r ≤ 3) (fun r => 3 - r) 0 (Nat.zero_le _) ?_ ?_
                    · skip
                      refine ⟨?_, ?_, ?_⟩
                      · skip
                        repeat ((conv => whnf); first | exact True.intro | refine ⟨.rfl, ?_⟩ | refine ⟨.any, ?_⟩ | refine ⟨.nil, ?_⟩ | refine ⟨.int (by first | rfl | omega | (simp only [wrs]; omega)), ?_⟩ | refine ⟨.int (by simp only [List.length_map]), ?_⟩)
                      · skip
                        repeat (first | exact LeVs.nil | ((conv => whnf); first | exact True.intro | exact .none | exact .row rfl | refine .cells ?_ | refine ⟨_, _, rfl, .rfl, ?_⟩ | refine ⟨_, _, rfl, .any, ?_⟩ | refine ⟨_, _, rfl, .nil, ?_⟩ | refine ⟨_, _, rfl, .int (by first | rfl | omega | (simp only [wrs]; omega)), ?_⟩ | refine ⟨_, _, rfl, .int (by simp only [List.length_map]), ?_⟩ | refine ⟨?_, ?_⟩))
                      · skip
                        repeat (first | exact LeFr.nil | ((conv => whnf); first | exact True.intro | refine ⟨.rfl, ?_⟩ | refine ⟨_, _, rfl, rfl, ?_, ?_⟩))
                    · skip
                      rintro r hr
                      rcases (show r = 0 ∨ r = 1 ∨ r = 2 ∨ r = 3 by omega) with rfl | rfl | rfl | rfl
                      · skip
                        conv => whnf
                        refine ⟨0, rfl, Nat.le_of_ble_eq_true rfl, ?_⟩
                        conv => whnf
                        refine .ct ?_
                        conv => whnf
                        refine CallG.mk (comp_X _ _ hJ.la (by omega) qa (by simp (disch := omega) only [wz, hq]; try omega) ta) rfl ?_
                        conv => whnf
                        refine ⟨0, rfl, Nat.le_of_ble_eq_true rfl, ?_⟩
                        conv => whnf
                        refine ⟨1, by omega, by omega, ?_⟩
                        refine ⟨?_, ?_, ?_⟩
                        · skip
                          repeat ((conv => whnf); first | exact True.intro | refine ⟨.rfl, ?_⟩ | refine ⟨.any, ?_⟩ | refine ⟨.nil, ?_⟩ | refine ⟨.int (by first | rfl | omega | (simp only [wrs]; omega)), ?_⟩ | refine ⟨.int (by simp only [List.length_map]), ?_⟩)
                        · skip
                          repeat (first | exact LeVs.nil | ((conv => whnf); first | exact True.intro | exact .none | exact .row rfl | refine .cells ?_ | refine ⟨_, _, rfl, .rfl, ?_⟩ | refine ⟨_, _, rfl, .any, ?_⟩ | refine ⟨_, _, rfl, .nil, ?_⟩ | refine ⟨_, _, rfl, .int (by first | rfl | omega | (simp only [wrs]; omega)), ?_⟩ | refine ⟨_, _, rfl, .int (by simp only [List.length_map]), ?_⟩ | refine ⟨?_, ?_⟩))
                        · skip
                          repeat (first | exact LeFr.nil | ((conv => whnf); first | exact True.intro | refine ⟨.rfl, ?_⟩ | refine ⟨_, _, rfl, rfl, ?_, ?_⟩))
                      · skip
                        conv => whnf
                        refine ⟨1, rfl, Nat.le_of_ble_eq_true rfl, ?_⟩
                        conv => whnf
                        refine .ct ?_
                        conv => whnf
                        refine CallG.mk (comp_X _ _ hJ.lb (by omega) qb (by simp (disch := omega) only [wz, hq]; try omega) tb) rfl ?_
                        conv => whnf
                        refine ⟨1, rfl, Nat.le_of_ble_eq_true rfl, ?_⟩
                        conv => whnf
                        refine ⟨2, by omega, by omega, ?_⟩
                        refine ⟨?_, ?_, ?_⟩
                        · skip
                          repeat ((conv => whnf); first | exact True.intro | refine ⟨.rfl, ?_⟩ | refine ⟨.any, ?_⟩ | refine ⟨.nil, ?_⟩ | refine ⟨.int (by first | rfl | omega | (simp only [wrs]; omega)), ?_⟩ | refine ⟨.int (by simp only [List.length_map]), ?_⟩)
                        · skip
                          repeat (first | exact LeVs.nil | ((conv => whnf); first | exact True.intro | exact .none | exact .row rfl | refine .cells ?_ | refine ⟨_, _, rfl, .rfl, ?_⟩ | refine ⟨_, _, rfl, .any, ?_⟩ | refine ⟨_, _, rfl, .nil, ?_⟩ | refine ⟨_, _, rfl, .int (by first | rfl | omega | (simp only [wrs]; omega)), ?_⟩ | refine ⟨_, _, rfl, .int (by simp only [List.length_map]), ?_⟩ | refine ⟨?_, ?_⟩))
                        · skip
                          repeat (first | exact LeFr.nil | ((conv => whnf); first | exact True.intro | refine ⟨.rfl, ?_⟩ | refine ⟨_, _, rfl, rfl, ?_, ?_⟩))
                      · skip
                        conv => whnf
                        refine ⟨2, rfl, Nat.le_of_ble_eq_true rfl, ?_⟩
                        conv => whnf
                        refine .ct ?_
                        conv => whnf
                        refine CallG.mk (comp_X _ _ hJ.lc (by omega) qc (by simp (disch := omega) only [wz, hq]; try omega) tc) rfl ?_
                        conv => whnf
                        refine ⟨2, rfl, Nat.le_of_ble_eq_true rfl, ?_⟩
                        conv => whnf
                        refine ⟨3, by omega, by omega, ?_⟩
                        refine ⟨?_, ?_, ?_⟩
                        · skip
                          repeat ((conv => whnf); first | exact True.intro | refine ⟨.rfl, ?_⟩ | refine ⟨.any, ?_⟩ | refine ⟨.nil, ?_⟩ | refine ⟨.int (by first | rfl | omega | (simp only [wrs]; omega)), ?_⟩ | refine ⟨.int (by simp only [List.length_map]), ?_⟩)
                        · skip
                          repeat (first | exact LeVs.nil | ((conv => whnf); first | exact True.intro | exact .none | exact .row rfl | refine .cells ?_ | refine ⟨_, _, rfl, .rfl, ?_⟩ | refine ⟨_, _, rfl, .any, ?_⟩ | refine ⟨_, _, rfl, .nil, ?_⟩ | refine ⟨_, _, rfl, .int (by first | rfl | omega | (simp only [wrs]; omega)), ?_⟩ | refine ⟨_, _, rfl, .int (by simp only [List.length_map]), ?_⟩ | refine ⟨?_, ?_⟩))
                        · skip
                          repeat (first | exact LeFr.nil | ((conv => whnf); first | exact True.intro | refine ⟨.rfl, ?_⟩ | refine ⟨_, _, rfl, rfl, ?_, ?_⟩))
                      · skip
                        conv => whnf
                        have hJ' := hJ.cut qa qb qc ta tb tc
                        refine XT.weak ⟨?_, ?_, ?_⟩ (chk _ _ _ _ _ hJ')
                        · skip
                          repeat ((conv => whnf); first | exact True.intro | refine ⟨.rfl, ?_⟩ | refine ⟨.any, ?_⟩ | refine ⟨.nil, ?_⟩ | refine ⟨.int (by first | rfl | omega | (simp only [wrs]; omega)), ?_⟩ | refine ⟨.int (by simp only [List.length_map]), ?_⟩)
                        · skip
                          repeat (first | exact LeVs.nil | ((conv => whnf); first | exact True.intro | exact .none | exact .row rfl | refine .cells ?_ | refine ⟨_, _, rfl, .rfl, ?_⟩ | refine ⟨_, _, rfl, .any, ?_⟩ | refine ⟨_, _, rfl, .nil, ?_⟩ | refine ⟨_, _, rfl, .int (by first | rfl | omega | (simp only [wrs]; omega)), ?_⟩ | refine ⟨_, _, rfl, .int (by simp only [List.length_map]), ?_⟩ | refine ⟨?_, ?_⟩))
                        · skip
                          repeat (first | exact LeFr.nil | ((conv => whnf); first | exact True.intro | refine ⟨.rfl, ?_⟩ | refine ⟨_, _, rfl, rfl, ?_, ?_⟩))
                · skip
                  conv => whnf
                  refine .ct ?_
                  conv => whnf
                  refine CallG.mk (termQ_X _ _ hJ.la (by omega) (by simp (disch := omega) only [wz, hq]; try omega) hT) rfl ?_
                  conv => whnf
                  refine ⟨(k + 1, i, t, a, b, c), ⟨by omega, by omega, (hJ.mono (by omega)).nat⟩, (show acts.length - (k + 1) < acts.length - k by omega), ?_⟩
                  refine ⟨?_, ?_, ?_⟩
                  · skip
                    repeat ((conv => whnf); first | exact True.intro | refine ⟨.rfl, ?_⟩ | refine ⟨.any, ?_⟩ | refine ⟨.nil, ?_⟩ | refine ⟨.int (by first | rfl | omega | (simp only [wrs]; omega)), ?_⟩ | refine ⟨.int (by simp only [List.length_map]), ?_⟩)
                  · skip
                    repeat (first | exact LeVs.nil | ((conv => whnf); first | exact True.intro | exact .none | exact .row rfl | refine .cells ?_ | refine ⟨_, _, rfl, .rfl, ?_⟩ | refine ⟨_, _, rfl, .any, ?_⟩ | refine ⟨_, _, rfl, .nil, ?_⟩ | refine ⟨_, _, rfl, .int (by first | rfl | omega | (simp only [wrs]; omega)), ?_⟩ | refine ⟨_, _, rfl, .int (by simp only [List.length_map]), ?_⟩ | refine ⟨?_, ?_⟩))
                  · skip
                    repeat (first | exact LeFr.nil | ((conv => whnf); first | exact True.intro | refine ⟨.rfl, ?_⟩ | refine ⟨_, _, rfl, rfl, ?_, ?_⟩))
              · skip
                conv => whnf
                refine ⟨1, hw, Nat.le_of_ble_eq_true rfl, ?_⟩
                conv => whnf
                rw [show IntKind.u64.wrap (i + x.I.tmod 17) = (i + x.I.tmod 17) from wz.2.1 _ (by omega) (by omega)]
                conv => whnf
                refine ⟨1, hw, Nat.le_of_ble_eq_true rfl, ?_⟩
                conv => whnf
                rcases term_cases hJ.lb q with ⟨hq2, hT⟩ | hT
                · skip
                  conv => whnf
                  refine .ct ?_
                  conv => whnf
                  refine CallG.mk (termQ_X _ _ hJ.lb (by omega) (by simp (disch := omega) only [wz, hq]; try omega) hT) rfl ?_
                  conv => whnf
                  refine .ct ?_
                  conv => whnf
                  refine CallG.mk (common_X _ _ _ _ _ _ hJ (by omega) _ _) rfl ?_
                  conv => whnf
                  cases hc4 : ((hasB i t a (i + x.I.tmod 17) (tm t b q) && hasB i t b (i + x.I.tmod 17) (tm t b q) && hasB i t c (i + x.I.tmod 17) (tm t b q)))
                  · skip
                    try simp only [bls] at hc4
                    conv => whnf
                    refine ⟨(k + 1, i, t, a, b, c), ⟨by omega, by omega, (hJ.mono (by omega)).nat⟩, (show acts.length - (k + 1) < acts.length - k by omega), ?_⟩
                    refine ⟨?_, ?_, ?_⟩
                    · skip
                      repeat ((conv => whnf); first | exact True.intro | refine ⟨.rfl, ?_⟩ | refine ⟨.any, ?_⟩ | refine ⟨.nil, ?_⟩ | refine ⟨.int (by first | rfl | omega | (simp only [wrs]; omega)), ?_⟩ | refine ⟨.int (by simp only [List.length_map]), ?_⟩)
                    · skip
                      repeat (first | exact LeVs.nil | ((conv => whnf); first | exact True.intro | exact .none | exact .row rfl | refine .cells ?_ | refine ⟨_, _, rfl, .rfl, ?_⟩ | refine ⟨_, _, rfl, .any, ?_⟩ | refine ⟨_, _, rfl, .nil, ?_⟩ | refine ⟨_, _, rfl, .int (by first | rfl | omega | (simp only [wrs]; omega)), ?_⟩ | refine ⟨_, _, rfl, .int (by simp only [List.length_map]), ?_⟩ | refine ⟨?_, ?_⟩))
                    · skip
                      repeat (first | exact LeFr.nil | ((conv => whnf); first | exact True.intro | refine ⟨.rfl, ?_⟩ | refine ⟨_, _, rfl, rfl, ?_, ?_⟩))
                  · skip
                    try simp only [bls] at hc4
                    conv => whnf
                    obtain ⟨⟨qa, ta⟩, ⟨qb, tb⟩, qc, tc⟩ := com_at (q := q) hJ (by omega) (by assumption) (by rw [hq])
                    refine XT.loop tabX_ok (Y := Nat) [2, 14, 15, 16, 138, 139, 140, 141, 142, 143, 144, 145, 146, 147, 148, 149, 150, 151, 152, 153, 154] (fun r => [(138, .p (.v (.int .i64 (r : Int))) (nlv _))]) (fun r => [(0, .cells 40 (cutC r i t q (tm t b q) a b c))]) (fun r => r ≤ 3) (fun r => 3 - r) 0 (Nat.zero_le _) ?_ ?_
                    · skip
                      refine ⟨?_, ?_, ?_⟩
                      · skip
                        repeat ((conv => whnf); first | exact True.intro | refine ⟨.rfl, ?_⟩ | refine ⟨.any, ?_⟩ | refine ⟨.nil, ?_⟩ | refine ⟨.int (by first | rfl | omega | (simp only [wrs]; omega)), ?_⟩ | refine ⟨.int (by simp only [List.length_map]), ?_⟩)
                      · skip
                        repeat (first | exact LeVs.nil | ((conv => whnf); first | exact True.intro | exact .none | exact .row rfl | refine .cells ?_ | refine ⟨_, _, rfl, .rfl, ?_⟩ | refine ⟨_, _, rfl, .any, ?_⟩ | refine ⟨_, _, rfl, .nil, ?_⟩ | refine ⟨_, _, rfl, .int (by first | rfl | omega | (simp only [wrs]; omega)), ?_⟩ | refine ⟨_, _, rfl, .int (by simp only [List.length_map]), ?_⟩ | refine ⟨?_, ?_⟩))
                      · skip
                        repeat (first | exact LeFr.nil | ((conv => whnf); first | exact True.intro | refine ⟨.rfl, ?_⟩ | refine ⟨_, _, rfl, rfl, ?_, ?_⟩))
                    · skip
                      rintro r hr
                      rcases (show r = 0 ∨ r = 1 ∨ r = 2 ∨ r = 3 by omega) with rfl | rfl | rfl | rfl
                      · skip
                        conv => whnf
                        refine ⟨0, rfl, Nat.le_of_ble_eq_true rfl, ?_⟩
                        conv => whnf
                        refine .ct ?_
                        conv => whnf
                        refine CallG.mk (comp_X _ _ hJ.la (by omega) qa (by simp (disch := omega) only [wz, hq]; try omega) ta) rfl ?_
                        conv => whnf
                        refine ⟨0, rfl, Nat.le_of_ble_eq_true rfl, ?_⟩
                        conv => whnf
                        refine ⟨1, by omega, by omega, ?_⟩
                        refine ⟨?_, ?_, ?_⟩
                        · skip
                          repeat ((conv => whnf); first | exact True.intro | refine ⟨.rfl, ?_⟩ | refine ⟨.any, ?_⟩ | refine ⟨.nil, ?_⟩ | refine ⟨.int (by first | rfl | omega | (simp only [wrs]; omega)), ?_⟩ | refine ⟨.int (by simp only [List.length_map]), ?_⟩)
                        · skip
                          repeat (first | exact LeVs.nil | ((conv => whnf); first | exact True.intro | exact .none | exact .row rfl | refine .cells ?_ | refine ⟨_, _, rfl, .rfl, ?_⟩ | refine ⟨_, _, rfl, .any, ?_⟩ | refine ⟨_, _, rfl, .nil, ?_⟩ | refine ⟨_, _, rfl, .int (by first | rfl | omega | (simp only [wrs]; omega)), ?_⟩ | refine ⟨_, _, rfl, .int (by simp only [List.length_map]), ?_⟩ | refine ⟨?_, ?_⟩))
                        · skip
                          repeat (first | exact LeFr.nil | ((conv => whnf); first | exact True.intro | refine ⟨.rfl, ?_⟩ | refine ⟨_, _, rfl, rfl, ?_, ?_⟩))
                      · skip
                        conv => whnf
                        refine ⟨1, rfl, Nat.le_of_ble_eq_true rfl, ?_⟩
                        conv => whnf
                        refine .ct ?_
                        conv => whnf
                        refine CallG.mk (comp_X _ _ hJ.lb (by omega) qb (by simp (disch := omega) only [wz, hq]; try omega) tb) rfl ?_
                        conv => whnf
                        refine ⟨1, rfl, Nat.le_of_ble_eq_true rfl, ?_⟩
                        conv => whnf
                        refine ⟨2, by omega, by omega, ?_⟩
                        refine ⟨?_, ?_, ?_⟩
                        · skip
                          repeat ((conv => whnf); first | exact True.intro | refine ⟨.rfl, ?_⟩ | refine ⟨.any, ?_⟩ | refine ⟨.nil, ?_⟩ | refine ⟨.int (by first | rfl | omega | (simp only [wrs]; omega)), ?_⟩ | refine ⟨.int (by simp only [List.length_map]), ?_⟩)
                        · skip
                          repeat (first | exact LeVs.nil | ((conv => whnf); first | exact True.intro | exact .none | exact .row rfl | refine .cells ?_ | refine ⟨_, _, rfl, .rfl, ?_⟩ | refine ⟨_, _, rfl, .any, ?_⟩ | refine ⟨_, _, rfl, .nil, ?_⟩ | refine ⟨_, _, rfl, .int (by first | rfl | omega | (simp only [wrs]; omega)), ?_⟩ | refine ⟨_, _, rfl, .int (by simp only [List.length_map]), ?_⟩ | refine ⟨?_, ?_⟩))
                        · skip
                          repeat (first | exact LeFr.nil | ((conv => whnf); first | exact True.intro | refine ⟨.rfl, ?_⟩ | refine ⟨_, _, rfl, rfl, ?_, ?_⟩))
                      · skip
                        conv => whnf
                        refine ⟨2, rfl, Nat.le_of_ble_eq_true rfl, ?_⟩
                        conv => whnf
                        refine .ct ?_
                        conv => whnf
                        refine CallG.mk (comp_X _ _ hJ.lc (by omega) qc (by simp (disch := omega) only [wz, hq]; try omega) tc) rfl ?_
                        conv => whnf
                        refine ⟨2, rfl, Nat.le_of_ble_eq_true rfl, ?_⟩
                        conv => whnf
                        refine ⟨3, by omega, by omega, ?_⟩
                        refine ⟨?_, ?_, ?_⟩
                        · skip
                          repeat ((conv => whnf); first | exact True.intro | refine ⟨.rfl, ?_⟩ | refine ⟨.any, ?_⟩ | refine ⟨.nil, ?_⟩ | refine ⟨.int (by first | rfl | omega | (simp only [wrs]; omega)), ?_⟩ | refine ⟨.int (by simp only [List.length_map]), ?_⟩)
                        · skip
                          repeat (first | exact LeVs.nil | ((conv => whnf); first | exact True.intro | exact .none | exact .row rfl | refine .cells ?_ | refine ⟨_, _, rfl, .rfl, ?_⟩ | refine ⟨_, _, rfl, .any, ?_⟩ | refine ⟨_, _, rfl, .nil, ?_⟩ | refine ⟨_, _, rfl, .int (by first | rfl | omega | (simp only [wrs]; omega)), ?_⟩ | refine ⟨_, _, rfl, .int (by simp only [List.length_map]), ?_⟩ | refine ⟨?_, ?_⟩))
                        · skip
                          repeat (first | exact LeFr.nil | ((conv => whnf); first | exact True.intro | refine ⟨.rfl, ?_⟩ | refine ⟨_, _, rfl, rfl, ?_, ?_⟩))
                      · skip
                        conv => whnf
                        have hJ' := hJ.cut qa qb qc ta tb tc
                        refine XT.weak ⟨?_, ?_, ?_⟩ (chk _ _ _ _ _ hJ')
                        · skip
                          repeat ((conv => whnf); first | exact True.intro | refine ⟨.rfl, ?_⟩ | refine ⟨.any, ?_⟩ | refine ⟨.nil, ?_⟩ | refine ⟨.int (by first | rfl | omega | (simp only [wrs]; omega)), ?_⟩ | refine ⟨.int (by simp only [List.length_map]), ?_⟩)
                        · skip
                          repeat (first | exact LeVs.nil | ((conv => whnf); first | exact True.intro | exact .none | exact .row rfl | refine .cells ?_ | refine ⟨_, _, rfl, .rfl, ?_⟩ | refine ⟨_, _, rfl, .any, ?_⟩ | refine ⟨_, _, rfl, .nil, ?_⟩ | refine ⟨_, _, rfl, .int (by first | rfl | omega | (simp only [wrs]; omega)), ?_⟩ | refine ⟨_, _, rfl, .int (by simp only [List.length_map]), ?_⟩ | refine ⟨?_, ?_⟩))
                        · skip
                          repeat (first | exact LeFr.nil | ((conv => whnf); first | exact True.intro | refine ⟨.rfl, ?_⟩ | refine ⟨_, _, rfl, rfl, ?_, ?_⟩))
                · skip
                  conv => whnf
                  refine .ct ?_
                  conv => whnf
                  refine CallG.mk (termQ_X _ _ hJ.lb (by omega) (by simp (disch := omega) only [wz, hq]; try omega) hT) rfl ?_
                  conv => whnf
                  refine ⟨(k + 1, i, t, a, b, c), ⟨by omega, by omega, (hJ.mono (by omega)).nat⟩, (show acts.length - (k + 1) < acts.length - k by omega), ?_⟩
                  refine ⟨?_, ?_, ?_⟩
                  · skip
                    repeat ((conv => whnf); first | exact True.intro | refine ⟨.rfl, ?_⟩ | refine ⟨.any, ?_⟩ | refine ⟨.nil, ?_⟩ | refine ⟨.int (by first | rfl | omega | (simp only [wrs]; omega)), ?_⟩ | refine ⟨.int (by simp only [List.length_map]), ?_⟩)
                  · skip
                    repeat (first | exact LeVs.nil | ((conv => whnf); first | exact True.intro | exact .none | exact .row rfl | refine .cells ?_ | refine ⟨_, _, rfl, .rfl, ?_⟩ | refine ⟨_, _, rfl, .any, ?_⟩ | refine ⟨_, _, rfl, .nil, ?_⟩ | refine ⟨_, _, rfl, .int (by first | rfl | omega | (simp only [wrs]; omega)), ?_⟩ | refine ⟨_, _, rfl, .int (by simp only [List.length_map]), ?_⟩ | refine ⟨?_, ?_⟩))
                  · skip
                    repeat (first | exact LeFr.nil | ((conv => whnf); first | exact True.intro | refine ⟨.rfl, ?_⟩ | refine ⟨_, _, rfl, rfl, ?_, ?_⟩))
              · skip
                conv => whnf
                refine ⟨2, hw, Nat.le_of_ble_eq_true rfl, ?_⟩
                conv => whnf
                rw [show IntKind.u64.wrap (i + x.I.tmod 17) = (i + x.I.tmod 17) from wz.2.1 _ (by omega) (by omega)]
                conv => whnf
                refine ⟨2, hw, Nat.le_of_ble_eq_true rfl, ?_⟩
                conv => whnf
                rcases term_cases hJ.lc q with ⟨hq2, hT⟩ | hT
                · skip
                  conv => whnf
                  refine .ct ?_
                  conv => whnf
                  refine CallG.mk (termQ_X _ _ hJ.lc (by omega) (by simp (disch := omega) only [wz, hq]; try omega) hT) rfl ?_
                  conv => whnf
                  refine .ct ?_
                  conv => whnf
                  refine CallG.mk (common_X _ _ _ _ _ _ hJ (by omega) _ _) rfl ?_
                  conv => whnf
                  cases hc5 : ((hasB i t a (i + x.I.tmod 17) (tm t c q) && hasB i t b (i + x.I.tmod 17) (tm t c q) && hasB i t c (i + x.I.tmod 17) (tm t c q)))
                  · skip
                    try simp only [bls] at hc5
                    conv => whnf
                    refine ⟨(k + 1, i, t, a, b, c), ⟨by omega, by omega, (hJ.mono (by omega)).nat⟩, (show acts.length - (k + 1) < acts.length - k by omega), ?_⟩
                    refine ⟨?_, ?_, ?_⟩
                    · skip
                      repeat ((conv => whnf); first | exact True.intro | refine ⟨.rfl, ?_⟩ | refine ⟨.any, ?_⟩ | refine ⟨.nil, ?_⟩ | refine ⟨.int (by first | rfl | omega | (simp only [wrs]; omega)), ?_⟩ | refine ⟨.int (by simp only [List.length_map]), ?_⟩)
                    · skip
                      repeat (first | exact LeVs.nil | ((conv => whnf); first | exact True.intro | exact .none | exact .row rfl | refine .cells ?_ | refine ⟨_, _, rfl, .rfl, ?_⟩ | refine ⟨_, _, rfl, .any, ?_⟩ | refine ⟨_, _, rfl, .nil, ?_⟩ | refine ⟨_, _, rfl, .int (by first | rfl | omega | (simp only [wrs]; omega)), ?_⟩ | refine ⟨_, _, rfl, .int (by simp only [List.length_map]), ?_⟩ | refine ⟨?_, ?_⟩))
                    · skip
                      repeat (first | exact LeFr.nil | ((conv => whnf); first | exact True.intro | refine ⟨.rfl, ?_⟩ | refine ⟨_, _, rfl, rfl, ?_, ?_⟩))
                  · skip
                    try simp only [bls] at hc5
                    conv => whnf
                    obtain ⟨⟨qa, ta⟩, ⟨qb, tb⟩, qc, tc⟩ := com_at (q := q) hJ (by omega) (by assumption) (by rw [hq])
                    refine XT.loop tabX_ok (Y := Nat) [2, 14, 15, 16, 138, 139, 140, 141, 142, 143, 144, 145, 146, 147, 148, 149, 150, 151, 152, 153, 154] (fun r => [(138, .p (.v (.int .i64 (r : Int))) (nlv _))]) (fun r => [(0, .cells 40 (cutC r i t q (tm t c q) a b c))]) (fun r => r ≤ 3) (fun r => 3 - r) 0 (Nat.zero_le _) ?_ ?_
                    · skip
                      refine ⟨?_, ?_, ?_⟩
                      · skip
                        repeat ((conv => whnf); first | exact True.intro | refine ⟨.rfl, ?_⟩ | refine ⟨.any, ?_⟩ | refine ⟨.nil, ?_⟩ | refine ⟨.int (by first | rfl | omega | (simp only [wrs]; omega)), ?_⟩ | refine ⟨.int (by simp only [List.length_map]), ?_⟩)
                      · skip
                        repeat (first | exact LeVs.nil | ((conv => whnf); first | exact True.intro | exact .none | exact .row rfl | refine .cells ?_ | refine ⟨_, _, rfl, .rfl, ?_⟩ | refine ⟨_, _, rfl, .any, ?_⟩ | refine ⟨_, _, rfl, .nil, ?_⟩ | refine ⟨_, _, rfl, .int (by first | rfl | omega | (simp only [wrs]; omega)), ?_⟩ | refine ⟨_, _, rfl, .int (by simp only [List.length_map]), ?_⟩ | refine ⟨?_, ?_⟩))
                      · skip
                        repeat (first | exact LeFr.nil | ((conv => whnf); first | exact True.intro | refine ⟨.rfl, ?_⟩ | refine ⟨_, _, rfl, rfl, ?_, ?_⟩))
                    · skip
                      rintro r hr
                      rcases (show r = 0 ∨ r = 1 ∨ r = 2 ∨ r = 3 by omega) with rfl | rfl | rfl | rfl
                      · skip
                        conv => whnf
                        refine ⟨0, rfl, Nat.le_of_ble_eq_true rfl, ?_⟩
                        conv => whnf
                        refine .ct ?_
                        conv => whnf
                        refine CallG.mk (comp_X _ _ hJ.la (by omega) qa (by simp (disch := omega) only [wz, hq]; try omega) ta) rfl ?_
                        conv => whnf
                        refine ⟨0, rfl, Nat.le_of_ble_eq_true rfl, ?_⟩
                        conv => whnf
                        refine ⟨1, by omega, by omega, ?_⟩
                        refine ⟨?_, ?_, ?_⟩
                        · skip
                          repeat ((conv => whnf); first | exact True.intro | refine ⟨.rfl, ?_⟩ | refine ⟨.any, ?_⟩ | refine ⟨.nil, ?_⟩ | refine ⟨.int (by first | rfl | omega | (simp only [wrs]; omega)), ?_⟩ | refine ⟨.int (by simp only [List.length_map]), ?_⟩)
                        · skip
                          repeat (first | exact LeVs.nil | ((conv => whnf); first | exact True.intro | exact .none | exact .row rfl | refine .cells ?_ | refine ⟨_, _, rfl, .rfl, ?_⟩ | refine ⟨_, _, rfl, .any, ?_⟩ | refine ⟨_, _, rfl, .nil, ?_⟩ | refine ⟨_, _, rfl, .int (by first | rfl | omega | (simp only [wrs]; omega)), ?_⟩ | refine ⟨_, _, rfl, .int (by simp only [List.length_map]), ?_⟩ | refine ⟨?_, ?_⟩))
                        · skip
                          repeat (first | exact LeFr.nil | ((conv => whnf); first | exact True.intro | refine ⟨.rfl, ?_⟩ | refine ⟨_, _, rfl, rfl, ?_, ?_⟩))
                      · skip
                        conv => whnf
                        refine ⟨1, rfl, Nat.le_of_ble_eq_true rfl, ?_⟩
                        conv => whnf
                        refine .ct ?_
                        conv => whnf
                        refine CallG.mk (comp_X _ _ hJ.lb (by omega) qb (by simp (disch := omega) only [wz, hq]; try omega) tb) rfl ?_
                        conv => whnf
                        refine ⟨1, rfl, Nat.le_of_ble_eq_true rfl, ?_⟩
                        conv => whnf
                        refine ⟨2, by omega, by omega, ?_⟩
                        refine ⟨?_, ?_, ?_⟩
                        · skip
                          repeat ((conv => whnf); first | exact True.intro | refine ⟨.rfl, ?_⟩ | refine ⟨.any, ?_⟩ | refine ⟨.nil, ?_⟩ | refine ⟨.int (by first | rfl | omega | (simp only [wrs]; omega)), ?_⟩ | refine ⟨.int (by simp only [List.length_map]), ?_⟩)
                        · skip
                          repeat (first | exact LeVs.nil | ((conv => whnf); first | exact True.intro | exact .none | exact .row rfl | refine .cells ?_ | refine ⟨_, _, rfl, .rfl, ?_⟩ | refine ⟨_, _, rfl, .any, ?_⟩ | refine ⟨_, _, rfl, .nil, ?_⟩ | refine ⟨_, _, rfl, .int (by first | rfl | omega | (simp only [wrs]; omega)), ?_⟩ | refine ⟨_, _, rfl, .int (by simp only [List.length_map]), ?_⟩ | refine ⟨?_, ?_⟩))
                        · skip
                          repeat (first | exact LeFr.nil | ((conv => whnf); first | exact True.intro | refine ⟨.rfl, ?_⟩ | refine ⟨_, _, rfl, rfl, ?_, ?_⟩))
                      · skip
                        conv => whnf
                        refine ⟨2, rfl, Nat.le_of_ble_eq_true rfl, ?_⟩
                        conv => whnf
                        refine .ct ?_
                        conv => whnf
                        refine CallG.mk (comp_X _ _ hJ.lc (by omega) qc (by simp (disch := omega) only [wz, hq]; try omega) tc) rfl ?_
                        conv => whnf
                        refine ⟨2, rfl, Nat.le_of_ble_eq_true rfl, ?_⟩
                        conv => whnf
                        refine ⟨3, by omega, by omega, ?_⟩
                        refine ⟨?_, ?_, ?_⟩
                        · skip
                          repeat ((conv => whnf); first | exact True.intro | refine ⟨.rfl, ?_⟩ | refine ⟨.any, ?_⟩ | refine ⟨.nil, ?_⟩ | refine ⟨.int (by first | rfl | omega | (simp only [wrs]; omega)), ?_⟩ | refine ⟨.int (by simp only [List.length_map]), ?_⟩)
                        · skip
                          repeat (first | exact LeVs.nil | ((conv => whnf); first | exact True.intro | exact .none | exact .row rfl | refine .cells ?_ | refine ⟨_, _, rfl, .rfl, ?_⟩ | refine ⟨_, _, rfl, .any, ?_⟩ | refine ⟨_, _, rfl, .nil, ?_⟩ | refine ⟨_, _, rfl, .int (by first | rfl | omega | (simp only [wrs]; omega)), ?_⟩ | refine ⟨_, _, rfl, .int (by simp only [List.length_map]), ?_⟩ | refine ⟨?_, ?_⟩))
                        · skip
                          repeat (first | exact LeFr.nil | ((conv => whnf); first | exact True.intro | refine ⟨.rfl, ?_⟩ | refine ⟨_, _, rfl, rfl, ?_, ?_⟩))
                      · skip
                        conv => whnf
                        have hJ' := hJ.cut qa qb qc ta tb tc
                        refine XT.weak ⟨?_, ?_, ?_⟩ (chk _ _ _ _ _ hJ')
                        · skip
                          repeat ((conv => whnf); first | exact True.intro | refine ⟨.rfl, ?_⟩ | refine ⟨.any, ?_⟩ | refine ⟨.nil, ?_⟩ | refine ⟨.int (by first | rfl | omega | (simp only [wrs]; omega)), ?_⟩ | refine ⟨.int (by simp only [List.length_map]), ?_⟩)
                        · skip
                          repeat (first | exact LeVs.nil | ((conv => whnf); first | exact True.intro | exact .none | exact .row rfl | refine .cells ?_ | refine ⟨_, _, rfl, .rfl, ?_⟩ | refine ⟨_, _, rfl, .any, ?_⟩ | refine ⟨_, _, rfl, .nil, ?_⟩ | refine ⟨_, _, rfl, .int (by first | rfl | omega | (simp only [wrs]; omega)), ?_⟩ | refine ⟨_, _, rfl, .int (by simp only [List.length_map]), ?_⟩ | refine ⟨?_, ?_⟩))
                        · skip
                          repeat (first | exact LeFr.nil | ((conv => whnf); first | exact True.intro | refine ⟨.rfl, ?_⟩ | refine ⟨_, _, rfl, rfl, ?_, ?_⟩))
                · skip
                  conv => whnf
                  refine .ct ?_
                  conv => whnf
                  refine CallG.mk (termQ_X _ _ hJ.lc (by omega) (by simp (disch := omega) only [wz, hq]; try omega) hT) rfl ?_
                  conv => whnf
                  refine ⟨(k + 1, i, t, a, b, c), ⟨by omega, by omega, (hJ.mono (by omega)).nat⟩, (show acts.length - (k + 1) < acts.length - k by omega), ?_⟩
                  refine ⟨?_, ?_, ?_⟩
                  · skip
                    repeat ((conv => whnf); first | exact True.intro | refine ⟨.rfl, ?_⟩ | refine ⟨.any, ?_⟩ | refine ⟨.nil, ?_⟩ | refine ⟨.int (by first | rfl | omega | (simp only [wrs]; omega)), ?_⟩ | refine ⟨.int (by simp only [List.length_map]), ?_⟩)
                  · skip
                    repeat (first | exact LeVs.nil | ((conv => whnf); first | exact True.intro | exact .none | exact .row rfl | refine .cells ?_ | refine ⟨_, _, rfl, .rfl, ?_⟩ | refine ⟨_, _, rfl, .any, ?_⟩ | refine ⟨_, _, rfl, .nil, ?_⟩ | refine ⟨_, _, rfl, .int (by first | rfl | omega | (simp only [wrs]; omega)), ?_⟩ | refine ⟨_, _, rfl, .int (by simp only [List.length_map]), ?_⟩ | refine ⟨?_, ?_⟩))
                  · skip
                    repeat (first | exact LeFr.nil | ((conv => whnf); first | exact True.intro | refine ⟨.rfl, ?_⟩ | refine ⟨_, _, rfl, rfl, ?_, ?_⟩))
          · skip
            try simp only [bls] at hc1
            try simp (disch := omega) only [wz, Int.reduceAdd, Int.reduceSub, Int.reduceMul, Int.reduceNeg, Int.zero_add, Int.add_zero, Int.sub_zero, Int.sub_self] at hc1
            conv => whnf
            refine RegG.latea 20 [] (by kernel_rfl) ?_
            conv => whnf
            rcases hW with hw | hw | hw
            · skip
              conv => whnf
              refine ⟨0, hw, Nat.le_of_ble_eq_true rfl, ?_⟩
              conv => whnf
              by_cases hE : xtE i t a [entA k x.D] = 0
              · skip
                conv => whnf
                refine CallG.mk (appY_X _ _ _ hJ.la (by omega) (by omega) x.D _ (by simp (disch := omega) only [wz, hq]; try omega) hE) rfl ?_
                conv => whnf
                refine ⟨rfl, ?_⟩
                conv => whnf
                refine ⟨rfl, ?_⟩
                conv => whnf
                simp (disch := omega) only [wz, Int.reduceAdd, Int.reduceSub, Int.reduceMul, Int.reduceNeg, Int.zero_add, Int.add_zero, Int.sub_zero, Int.sub_self]
                conv => whnf
                refine ⟨0, hw, Nat.le_of_ble_eq_true rfl, ?_⟩
                conv => whnf
                have hJ' := hJ.app (by omega) (by omega) hE
                refine XT.weak ⟨?_, ?_, ?_⟩ (chk _ _ _ _ _ hJ')
                · skip
                  repeat ((conv => whnf); first | exact True.intro | refine ⟨.rfl, ?_⟩ | refine ⟨.any, ?_⟩ | refine ⟨.nil, ?_⟩ | refine ⟨.int (by first | rfl | omega | (simp only [wrs]; omega)), ?_⟩ | refine ⟨.int (by simp only [List.length_map]), ?_⟩)
                · skip
                  repeat (first | exact LeVs.nil | ((conv => whnf); first | exact True.intro | exact .none | exact .row rfl | refine .cells ?_ | refine ⟨_, _, rfl, .rfl, ?_⟩ | refine ⟨_, _, rfl, .any, ?_⟩ | refine ⟨_, _, rfl, .nil, ?_⟩ | refine ⟨_, _, rfl, .int (by first | rfl | omega | (simp only [wrs]; omega)), ?_⟩ | refine ⟨_, _, rfl, .int (by simp only [List.length_map]), ?_⟩ | refine ⟨?_, ?_⟩))
                · skip
                  repeat (first | exact LeFr.nil | ((conv => whnf); first | exact True.intro | refine ⟨.rfl, ?_⟩ | refine ⟨_, _, rfl, rfl, ?_, ?_⟩))
              · skip
                conv => whnf
                refine CallG.mk (appN_X _ _ _ hJ.la (by omega) (by omega) x.D _ (by simp (disch := omega) only [wz, hq]; try omega) hE) rfl ?_
                conv => whnf
                refine ⟨rfl, ?_⟩
                conv => whnf
                refine ⟨rfl, ?_⟩
                conv => whnf
                rw [show (decide (xtE i t a [entA (↑k : Int) x.D] = 0)) = false from decide_eq_false (by omega)]
                conv => whnf
                have hJ' := hJ.mono (m' := (k : Int) + 1) (by omega)
                refine XT.weak ⟨?_, ?_, ?_⟩ (chk _ _ _ _ _ hJ')
                · skip
                  repeat ((conv => whnf); first | exact True.intro | refine ⟨.rfl, ?_⟩ | refine ⟨.any, ?_⟩ | refine ⟨.nil, ?_⟩ | refine ⟨.int (by first | rfl | omega | (simp only [wrs]; omega)), ?_⟩ | refine ⟨.int (by simp only [List.length_map]), ?_⟩)
                · skip
                  repeat (first | exact LeVs.nil | ((conv => whnf); first | exact True.intro | exact .none | exact .row rfl | refine .cells ?_ | refine ⟨_, _, rfl, .rfl, ?_⟩ | refine ⟨_, _, rfl, .any, ?_⟩ | refine ⟨_, _, rfl, .nil, ?_⟩ | refine ⟨_, _, rfl, .int (by first | rfl | omega | (simp only [wrs]; omega)), ?_⟩ | refine ⟨_, _, rfl, .int (by simp only [List.length_map]), ?_⟩ | refine ⟨?_, ?_⟩))
                · skip
                  repeat (first | exact LeFr.nil | ((conv => whnf); first | exact True.intro | refine ⟨.rfl, ?_⟩ | refine ⟨_, _, rfl, rfl, ?_, ?_⟩))
            · skip
              conv => whnf
              refine ⟨1, hw, Nat.le_of_ble_eq_true rfl, ?_⟩
              conv => whnf
              by_cases hE : xtE i t b [entA k x.D] = 0
              · skip
                conv => whnf
                refine CallG.mk (appY_X _ _ _ hJ.lb (by omega) (by omega) x.D _ (by simp (disch := omega) only [wz, hq]; try omega) hE) rfl ?_
                conv => whnf
                refine ⟨rfl, ?_⟩
                conv => whnf
                refine ⟨rfl, ?_⟩
                conv => whnf
                simp (disch := omega) only [wz, Int.reduceAdd, Int.reduceSub, Int.reduceMul, Int.reduceNeg, Int.zero_add, Int.add_zero, Int.sub_zero, Int.sub_self]
                conv => whnf
                refine ⟨1, hw, Nat.le_of_ble_eq_true rfl, ?_⟩
                conv => whnf
                have hJ' := hJ.app1 (by omega) (by omega) hE
                refine XT.weak ⟨?_, ?_, ?_⟩ (chk _ _ _ _ _ hJ')
                · skip
                  repeat ((conv => whnf); first | exact True.intro | refine ⟨.rfl, ?_⟩ | refine ⟨.any, ?_⟩ | refine ⟨.nil, ?_⟩ | refine ⟨.int (by first | rfl | omega | (simp only [wrs]; omega)), ?_⟩ | refine ⟨.int (by simp only [List.length_map]), ?_⟩)
                · skip
                  repeat (first | exact LeVs.nil | ((conv => whnf); first | exact True.intro | exact .none | exact .row rfl | refine .cells ?_ | refine ⟨_, _, rfl, .rfl, ?_⟩ | refine ⟨_, _, rfl, .any, ?_⟩ | refine ⟨_, _, rfl, .nil, ?_⟩ | refine ⟨_, _, rfl, .int (by first | rfl | omega | (simp only [wrs]; omega)), ?_⟩ | refine ⟨_, _, rfl, .int (by simp only [List.length_map]), ?_⟩ | refine ⟨?_, ?_⟩))
                · skip
                  repeat (first | exact LeFr.nil | ((conv => whnf); first | exact True.intro | refine ⟨.rfl, ?_⟩ | refine ⟨_, _, rfl, rfl, ?_, ?_⟩))
              · skip
                conv => whnf
                refine CallG.mk (appN_X _ _ _ hJ.lb (by omega) (by omega) x.D _ (by simp (disch := omega) only [wz, hq]; try omega) hE) rfl ?_
                conv => whnf
                refine ⟨rfl, ?_⟩
                conv => whnf
                refine ⟨rfl, ?_⟩
                conv => whnf
                rw [show (decide (xtE i t b [entA (↑k : Int) x.D] = 0)) = false from decide_eq_false (by omega)]
                conv => whnf
                have hJ' := hJ.mono (m' := (k : Int) + 1) (by omega)
                refine XT.weak ⟨?_, ?_, ?_⟩ (chk _ _ _ _ _ hJ')
                · skip
                  repeat ((conv => whnf); first | exact True.intro | refine ⟨.rfl, ?_⟩ | refine ⟨.any, ?_⟩ | refine ⟨.nil, ?_⟩ | refine ⟨.int (by first | rfl | omega | (simp only [wrs]; omega)), ?_⟩ | refine ⟨.int (by simp only [List.length_map]), ?_⟩)
                · skip
                  repeat (first | exact LeVs.nil | ((conv => whnf); first | exact True.intro | exact .none | exact .row rfl | refine .cells ?_ | refine ⟨_, _, rfl, .rfl, ?_⟩ | refine ⟨_, _, rfl, .any, ?_⟩ | refine ⟨_, _, rfl, .nil, ?_⟩ | refine ⟨_, _, rfl, .int (by first | rfl | omega | (simp only [wrs]; omega)), ?_⟩ | refine ⟨_, _, rfl, .int (by simp only [List.length_map]), ?_⟩ | refine ⟨?_, ?_⟩))
                · skip
                  repeat (first | exact LeFr.nil | ((conv => whnf); first | exact True.intro | refine ⟨.rfl, ?_⟩ | refine ⟨_, _, rfl, rfl, ?_, ?_⟩))
            · skip
              conv => whnf
              refine ⟨2, hw, Nat.le_of_ble_eq_true rfl, ?_⟩
              conv => whnf
              by_cases hE : xtE i t c [entA k x.D] = 0
              · skip
                conv => whnf
                refine CallG.mk (appY_X _ _ _ hJ.lc (by omega) (by omega) x.D _ (by simp (disch := omega) only [wz, hq]; try omega) hE) rfl ?_
                conv => whnf
                refine ⟨rfl, ?_⟩
                conv => whnf
                refine ⟨rfl, ?_⟩
                conv => whnf
                simp (disch := omega) only [wz, Int.reduceAdd, Int.reduceSub, Int.reduceMul, Int.reduceNeg, Int.zero_add, Int.add_zero, Int.sub_zero, Int.sub_self]
                conv => whnf
                refine ⟨2, hw, Nat.le_of_ble_eq_true rfl, ?_⟩
                conv => whnf
                have hJ' := hJ.app2 (by omega) (by omega) hE
                refine XT.weak ⟨?_, ?_, ?_⟩ (chk _ _ _ _ _ hJ')
                · skip
                  repeat ((conv => whnf); first | exact True.intro | refine ⟨.rfl, ?_⟩ | refine ⟨.any, ?_⟩ | refine ⟨.nil, ?_⟩ | refine ⟨.int (by first | rfl | omega | (simp only [wrs]; omega)), ?_⟩ | refine ⟨.int (by simp only [List.length_map]), ?_⟩)
                · skip
                  repeat (first | exact LeVs.nil | ((conv => whnf); first | exact True.intro | exact .none | exact .row rfl | refine .cells ?_ | refine ⟨_, _, rfl, .rfl, ?_⟩ | refine ⟨_, _, rfl, .any, ?_⟩ | refine ⟨_, _, rfl, .nil, ?_⟩ | refine ⟨_, _, rfl, .int (by first | rfl | omega | (simp only [wrs]; omega)), ?_⟩ | refine ⟨_, _, rfl, .int (by simp only [List.length_map]), ?_⟩ | refine ⟨?_, ?_⟩))
                · skip
                  repeat (first | exact LeFr.nil | ((conv => whnf); first | exact True.intro | refine ⟨.rfl, ?_⟩ | refine ⟨_, _, rfl, rfl, ?_, ?_⟩))
              · skip
                conv => whnf
                refine CallG.mk (appN_X _ _ _ hJ.lc (by omega) (by omega) x.D _ (by simp (disch := omega) only [wz, hq]; try omega) hE) rfl ?_
                conv => whnf
                refine ⟨rfl, ?_⟩
                conv => whnf
                refine ⟨rfl, ?_⟩
                conv => whnf
                rw [show (decide (xtE i t c [entA (↑k : Int) x.D] = 0)) = false from decide_eq_false (by omega)]
                conv => whnf
                have hJ' := hJ.mono (m' := (k : Int) + 1) (by omega)
                refine XT.weak ⟨?_, ?_, ?_⟩ (chk _ _ _ _ _ hJ')
                · skip
                  repeat ((conv => whnf); first | exact True.intro | refine ⟨.rfl, ?_⟩ | refine ⟨.any, ?_⟩ | refine ⟨.nil, ?_⟩ | refine ⟨.int (by first | rfl | omega | (simp only [wrs]; omega)), ?_⟩ | refine ⟨.int (by simp only [List.length_map]), ?_⟩)
                · skip
                  repeat (first | exact LeVs.nil | ((conv => whnf); first | exact True.intro | exact .none | exact .row rfl | refine .cells ?_ | refine ⟨_, _, rfl, .rfl, ?_⟩ | refine ⟨_, _, rfl, .any, ?_⟩ | refine ⟨_, _, rfl, .nil, ?_⟩ | refine ⟨_, _, rfl, .int (by first | rfl | omega | (simp only [wrs]; omega)), ?_⟩ | refine ⟨_, _, rfl, .int (by simp only [List.length_map]), ?_⟩ | refine ⟨?_, ?_⟩))
                · skip
                  repeat (first | exact LeFr.nil | ((conv => whnf); first | exact True.intro | refine ⟨.rfl, ?_⟩ | refine ⟨_, _, rfl, rfl, ?_, ?_⟩))
        · skip
          intro i' t' a' b' c' hJ'
          have hl' := hJ'.la.len
          have hi' := hJ'.la.i0
          conv => whnf
          refine XT.loop tabX_ok (Y := Nat) [2, 24, 155, 156, 157, 158, 159, 160, 161, 162, 163, 164, 165, 166, 167, 168, 169, 170, 171, 172, 173, 174, 175] (fun r => [(155, .p (.v (.int .i64 (r : Int))) (nlv _))]) (fun r => []) (fun r => r ≤ 3) (fun r => 3 - r) 0 (Nat.zero_le _) ?_ ?_
          · skip
            refine ⟨?_, ?_, ?_⟩
            · skip
              repeat ((conv => whnf); first | exact True.intro | refine ⟨.rfl, ?_⟩ | refine ⟨.any, ?_⟩ | refine ⟨.nil, ?_⟩ | refine ⟨.int (by first | rfl | omega | (simp only [wrs]; omega)), ?_⟩ | refine ⟨.int (by simp only [List.length_map]), ?_⟩)
            · skip
              repeat (first | exact LeVs.nil | ((conv => whnf); first | exact True.intro | exact .none | exact .row rfl | refine .cells ?_ | refine ⟨_, _, rfl, .rfl, ?_⟩ | refine ⟨_, _, rfl, .any, ?_⟩ | refine ⟨_, _, rfl, .nil, ?_⟩ | refine ⟨_, _, rfl, .int (by first | rfl | omega | (simp only [wrs]; omega)), ?_⟩ | refine ⟨_, _, rfl, .int (by simp only [List.length_map]), ?_⟩ | refine ⟨?_, ?_⟩))
            · skip
              repeat (first | exact LeFr.nil | ((conv => whnf); first | exact True.intro | refine ⟨.rfl, ?_⟩ | refine ⟨_, _, rfl, rfl, ?_, ?_⟩))
          · skip
            rintro r hr
            rcases (show r = 0 ∨ r = 1 ∨ r = 2 ∨ r = 3 by omega) with rfl | rfl | rfl | rfl
            · skip
              conv => whnf
              refine RegG.par 17 (by kernel_rfl) ?_
              conv => whnf
              refine ⟨0, rfl, Nat.le_of_ble_eq_true rfl, ?_⟩
              conv => whnf
              refine CallG.mk (may_X _ _ hJ'.la (by omega)) rfl ?_
              conv => whnf
              refine ⟨0, rfl, Nat.le_of_ble_eq_true rfl, ?_⟩
              conv => whnf
              refine ⟨1, rfl, Nat.le_of_ble_eq_true rfl, ?_⟩
              conv => whnf
              refine CallG.mk (matches_X _ _ _ _ hJ'.la hJ'.lb hJ'.ab (by omega)) rfl ?_
              conv => whnf
              refine ⟨1, by omega, by omega, ?_⟩
              refine ⟨?_, ?_, ?_⟩
              · skip
                repeat ((conv => whnf); first | exact True.intro | refine ⟨.rfl, ?_⟩ | refine ⟨.any, ?_⟩ | refine ⟨.nil, ?_⟩ | refine ⟨.int (by first | rfl | omega | (simp only [wrs]; omega)), ?_⟩ | refine ⟨.int (by simp only [List.length_map]), ?_⟩)
              · skip
                repeat (first | exact LeVs.nil | ((conv => whnf); first | exact True.intro | exact .none | exact .row rfl | refine .cells ?_ | refine ⟨_, _, rfl, .rfl, ?_⟩ | refine ⟨_, _, rfl, .any, ?_⟩ | refine ⟨_, _, rfl, .nil, ?_⟩ | refine ⟨_, _, rfl, .int (by first | rfl | omega | (simp only [wrs]; omega)), ?_⟩ | refine ⟨_, _, rfl, .int (by simp only [List.length_map]), ?_⟩ | refine ⟨?_, ?_⟩))
              · skip
                repeat (first | exact LeFr.nil | ((conv => whnf); first | exact True.intro | refine ⟨.rfl, ?_⟩ | refine ⟨_, _, rfl, rfl, ?_, ?_⟩))
            · skip
              conv => whnf
              refine RegG.par 17 (by kernel_rfl) ?_
              conv => whnf
              refine ⟨1, rfl, Nat.le_of_ble_eq_true rfl, ?_⟩
              conv => whnf
              refine CallG.mk (may_X _ _ hJ'.lb (by omega)) rfl ?_
              conv => whnf
              refine ⟨1, rfl, Nat.le_of_ble_eq_true rfl, ?_⟩
              conv => whnf
              refine ⟨2, rfl, Nat.le_of_ble_eq_true rfl, ?_⟩
              conv => whnf
              refine CallG.mk (matches_X _ _ _ _ hJ'.lb hJ'.lc hJ'.bc (by omega)) rfl ?_
              conv => whnf
              refine ⟨2, by omega, by omega, ?_⟩
              refine ⟨?_, ?_, ?_⟩
              · skip
                repeat ((conv => whnf); first | exact True.intro | refine ⟨.rfl, ?_⟩ | refine ⟨.any, ?_⟩ | refine ⟨.nil, ?_⟩ | refine ⟨.int (by first | rfl | omega | (simp only [wrs]; omega)), ?_⟩ | refine ⟨.int (by simp only [List.length_map]), ?_⟩)
              · skip
                repeat (first | exact LeVs.nil | ((conv => whnf); first | exact True.intro | exact .none | exact .row rfl | refine .cells ?_ | refine ⟨_, _, rfl, .rfl, ?_⟩ | refine ⟨_, _, rfl, .any, ?_⟩ | refine ⟨_, _, rfl, .nil, ?_⟩ | refine ⟨_, _, rfl, .int (by first | rfl | omega | (simp only [wrs]; omega)), ?_⟩ | refine ⟨_, _, rfl, .int (by simp only [List.length_map]), ?_⟩ | refine ⟨?_, ?_⟩))
              · skip
                repeat (first | exact LeFr.nil | ((conv => whnf); first | exact True.intro | refine ⟨.rfl, ?_⟩ | refine ⟨_, _, rfl, rfl, ?_, ?_⟩))
            · skip
              conv => whnf
              refine RegG.par 17 (by kernel_rfl) ?_
              conv => whnf
              refine ⟨2, rfl, Nat.le_of_ble_eq_true rfl, ?_⟩
              conv => whnf
              refine CallG.mk (may_X _ _ hJ'.lc (by omega)) rfl ?_
              conv => whnf
              refine ⟨2, rfl, Nat.le_of_ble_eq_true rfl, ?_⟩
              conv => whnf
              refine ⟨0, rfl, Nat.le_of_ble_eq_true rfl, ?_⟩
              conv => whnf
              refine CallG.mk (matches_X _ _ _ _ hJ'.lc hJ'.la hJ'.ca (by omega)) rfl ?_
              conv => whnf
              refine ⟨3, by omega, by omega, ?_⟩
              refine ⟨?_, ?_, ?_⟩
              · skip
                repeat ((conv => whnf); first | exact True.intro | refine ⟨.rfl, ?_⟩ | refine ⟨.any, ?_⟩ | refine ⟨.nil, ?_⟩ | refine ⟨.int (by first | rfl | omega | (simp only [wrs]; omega)), ?_⟩ | refine ⟨.int (by simp only [List.length_map]), ?_⟩)
              · skip
                repeat (first | exact LeVs.nil | ((conv => whnf); first | exact True.intro | exact .none | exact .row rfl | refine .cells ?_ | refine ⟨_, _, rfl, .rfl, ?_⟩ | refine ⟨_, _, rfl, .any, ?_⟩ | refine ⟨_, _, rfl, .nil, ?_⟩ | refine ⟨_, _, rfl, .int (by first | rfl | omega | (simp only [wrs]; omega)), ?_⟩ | refine ⟨_, _, rfl, .int (by simp only [List.length_map]), ?_⟩ | refine ⟨?_, ?_⟩))
              · skip
                repeat (first | exact LeFr.nil | ((conv => whnf); first | exact True.intro | refine ⟨.rfl, ?_⟩ | refine ⟨_, _, rfl, rfl, ?_, ?_⟩))
            · skip
              conv => whnf
              refine ⟨(k + 1, _, _, _, _, _), ⟨by omega, by omega, hJ'.nat⟩, (show acts.length - (k + 1) < acts.length - k by omega), ?_⟩
              refine ⟨?_, ?_, ?_⟩
              · skip
                repeat ((conv => whnf); first | exact True.intro | refine ⟨.rfl, ?_⟩ | refine ⟨.any, ?_⟩ | refine ⟨.nil, ?_⟩ | refine ⟨.int (by first | rfl | omega | (simp only [wrs]; omega)), ?_⟩ | refine ⟨.int (by simp only [List.length_map]), ?_⟩)
              · skip
                repeat (first | exact LeVs.nil | ((conv => whnf); first | exact True.intro | exact .none | exact .row rfl | refine .cells ?_ | refine ⟨_, _, rfl, .rfl, ?_⟩ | refine ⟨_, _, rfl, .any, ?_⟩ | refine ⟨_, _, rfl, .nil, ?_⟩ | refine ⟨_, _, rfl, .int (by first | rfl | omega | (simp only [wrs]; omega)), ?_⟩ | refine ⟨_, _, rfl, .int (by simp only [List.length_map]), ?_⟩ | refine ⟨?_, ?_⟩))
              · skip
                repeat (first | exact LeFr.nil | ((conv => whnf); first | exact True.intro | refine ⟨.rfl, ?_⟩ | refine ⟨_, _, rfl, rfl, ?_, ?_⟩))
      · skip
        conv => whnf
        rw [show (decide ((↑k : Int) < (↑(List.map actC acts).length : Int))) = true from decide_eq_true (by rw [List.length_map]; omega)]
        conv => whnf
        refine IdxG.mk (j := k) (c := actC x) (by rw [List.getElem?_map, hx]; rfl) rfl ?_
        conv => whnf
        refine ⟨rfl, ?_⟩
        conv => whnf
        rw [show (decide ((↑k : Int) = 60)) = true from decide_eq_true (by omega)]
        conv => whnf
        refine FinG.mk none ?_ (by rintro _ ⟨⟩)
        simp only [outs, List.length_map, List.length_append, List.length_take, List.length_drop, List.length_cons, List.length_nil, lgX, lgC, atX, List.map_map]
end Go.Proofs.Ytpckkajodpiiaaa
