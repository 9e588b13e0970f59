/- Rows of what is said, of which the bytes were written over: their shape stays. No condition. -/
import Derived.Test.YtmhmldpccccjbaaOpen
import Derived.Test.YtmhmldpccccjbaaN4
import Derived.Test.YtmhmldpccccjbaaU24
import Derived.Test.YtmhmldpccccjbaaNW
namespace Go.Proofs.Ytmhmldpccccjbaa
open Go.RowKit
set_option linter.unusedVariables false
set_option linter.unusedSimpArgs false

theorem shL4 {a b d f : Sh} {c : List TV} (h : ShL [a, b, d, f] c) : ∃ x y z u, c = [x, y, z, u] ∧ ShV a x ∧ ShV b y ∧ ShV d z ∧ ShV f u := by
  simp only [ShL] at h
  obtain ⟨x, _, rfl, h1, y, _, rfl, h2, z, _, rfl, h3, u, _, rfl, h4, rfl⟩ := h
  exact ⟨x, y, z, u, rfl, h1, h2, h3, h4⟩
abbrev shB : List Sh := [.int .u8]
abbrev shSl : List Sh := [.int .i64, .int .i64, .int .i64, .sl shB]
abbrev shDf : List Sh := [.int .i64, .int .i64]
abbrev shN : List Sh := [.sl shSl, .int .i64, .sl shDf]
abbrev shSd : List Sh := [.int .i64, .sl shB]
theorem i64_I {x : Int} (h : (Lit.int .i64 x).wf = true) : I64 x := by simp [Lit.wf, IntKind.min, IntKind.max, IntKind.signed, IntKind.bits] at h; unfold I64; omega
theorem open_by {els : List (List TV)} (h : ∀ c ∈ els, ShL shB c) : ∃ l : List Int, els = l.map by1 ∧ l.length = els.length ∧ ∀ x ∈ l, 0 ≤ x ∧ x < 256 := image_of fun c hc => by
  obtain ⟨x, rfl, h1⟩ := shL1 (h c hc)
  obtain ⟨n, rfl, h2⟩ := sh_int h1
  refine ⟨n, rfl, ?_⟩
  simp [Lit.wf, IntKind.min, IntKind.max, IntKind.signed, IntKind.bits] at h2; omega
structure Sl.In (s : Sl) : Prop where
  a : I64 s.a
  f : I64 s.f
  t : I64 s.t
  n : s.b.length ≤ maxLen
  b : ∀ x ∈ s.b, 0 ≤ x ∧ x < 256
theorem open_slots {els : List (List TV)} (h : ∀ c ∈ els, ShL shSl c) : ∃ l : List Sl, els = l.map (slC false) ∧ l.length = els.length ∧ ∀ s ∈ l, s.In := image_of fun c hc => by
  obtain ⟨x, y, z, u, rfl, h1, h2, h3, h4⟩ := shL4 (h c hc)
  obtain ⟨a, rfl, h5⟩ := sh_int h1
  obtain ⟨f, rfl, h6⟩ := sh_int h2
  obtain ⟨t, rfl, h7⟩ := sh_int h3
  obtain ⟨bs, rfl, h8, h9⟩ := sh_sl h4
  obtain ⟨l, rfl, ha, hb⟩ := open_by h9
  exact ⟨⟨a, f, t, l⟩, rfl, i64_I h5, i64_I h6, i64_I h7, by rw [show (⟨a, f, t, l⟩ : Sl).b = l from rfl, ha]; exact h8, hb⟩
theorem open_df {els : List (List TV)} (h : ∀ c ∈ els, ShL shDf c) : ∃ l : List (Int × Int), els = l.map dfC ∧ l.length = els.length ∧ ∀ p ∈ l, I64 p.1 ∧ I64 p.2 := image_of fun c hc => by
  obtain ⟨x, y, rfl, h1, h2⟩ := shL2 (h c hc)
  obtain ⟨i, rfl, h4⟩ := sh_int h1
  obtain ⟨t, rfl, h5⟩ := sh_int h2
  exact ⟨(i, t), rfl, i64_I h4, i64_I h5⟩
def netC (n : NetA) : List TV := [.sl false (n.s.map (slC false)), .v (.int .i64 n.l), .sl false (n.d.map dfC)]
/-- A net as it comes in. -/
structure NetA.In2 (n : NetA) : Prop where
  i : n.In
  b : ∀ x ∈ n.s, ∀ y ∈ x.b, 0 ≤ y ∧ y < 256
theorem open_net {c : List TV} (h : ShL shN c) : ∃ n : NetA, c = netC n ∧ n.In2 := by
  obtain ⟨x, y, z, rfl, h1, h2, h3⟩ := shL3 h
  obtain ⟨ss, rfl, h4, h5⟩ := sh_sl h1
  obtain ⟨l, rfl, h6⟩ := sh_int h2
  obtain ⟨ds, rfl, h7, h8⟩ := sh_sl h3
  obtain ⟨s, rfl, h9, h10⟩ := open_slots h5
  obtain ⟨d, rfl, h11, h12⟩ := open_df h8
  refine ⟨⟨s, l, d⟩, rfl, ⟨fun x hx => ?_, ?_, i64_I h6, h12, ?_⟩, fun x hx => (h10 x hx).b⟩
  · have := h10 x hx
    exact ⟨this.a, this.f, this.t, by have := this.n; unfold maxLen at this; omega⟩
  · show s.length ≤ _
    unfold maxLen at h4; omega
  · show d.length ≤ _
    unfold maxLen at h7; omega
theorem open_sds {els : List (List TV)} (h : ∀ c ∈ els, ShL shSd c) : ∃ l : List Msg, els = l.map (sdC false) ∧ l.length = els.length ∧ ∀ m ∈ l, I64 m.1 ∧ m.2.length ≤ 9223372036854775807 ∧ ∀ x ∈ m.2, 0 ≤ x ∧ x < 256 := image_of fun c hc => by
  obtain ⟨x, y, rfl, h1, h2⟩ := shL2 (h c hc)
  obtain ⟨i, rfl, h4⟩ := sh_int h1
  obtain ⟨bs, rfl, h8, h9⟩ := sh_sl h2
  obtain ⟨l, rfl, ha, hb⟩ := open_by h9
  exact ⟨(i, l), rfl, i64_I h4, by show l.length ≤ _; unfold maxLen at h8; omega, hb⟩
end Go.Proofs.Ytmhmldpccccjbaa

namespace Go.Proofs.Ytmhmldpccccjbaa
open Go.RowKit
set_option linter.unusedVariables false
set_option linter.unusedSimpArgs false

def inC (x : Int) : List TV := [.v (.int .i64 x)]
abbrev shIn : List Sh := [.int .i64]
end Go.Proofs.Ytmhmldpccccjbaa

namespace Go.Proofs.Ytmhmldpccccjbaa
open Go.RowKit
set_option linter.unusedVariables false
set_option linter.unusedSimpArgs false

theorem bl_sdr {C C' : Cx} (hs : ShpS C.S C.B C.w C'.w) (hB : C'.B = C.B) (hS : ∀ k, C.S k → C'.S k) : ∀ {es : List Msg} {css : List (List Value)} {cs2 : List Value}, DnLL C (es.map (sdC true)) css → cs2.length = css.flatten.length → (∀ (j : Nat) (x : Value), css.flatten[j]? = some x → cs2[j]? = some x ∨ ∃ k y z, x = .int k y ∧ cs2[j]? = some (.int k z)) →
    ∃ (es2 : List Msg) (css2 : List (List Value)), css2.flatten = cs2 ∧ (∀ x ∈ css2, x.length = 2) ∧ es2.length = es.length ∧ (∀ e ∈ es2, ∃ e0 ∈ es, e.2.length = e0.2.length) ∧ DnLL C' (es2.map (sdC true)) css2
  | [], css, cs2, h, hl, hc => by
    simp only [List.map_nil, DnLL] at h
    subst h
    obtain rfl : cs2 = [] := List.eq_nil_of_length_eq_zero (by simpa using hl)
    exact ⟨[], [], rfl, by simp, rfl, by simp, by simp [DnLL]⟩
  | e :: es, css, cs2, h, hl, hc => by
    simp only [List.map_cons, DnLL] at h
    obtain ⟨u, us, rfl, h1, h2⟩ := h
    simp only [sdC, DnL] at h1
    obtain ⟨u1, us1, rfl, h11, u3, us3, rfl, h13, rfl⟩ := h1
    simp only [Dn] at h11
    subst h11
    match cs2, hl, hc with
    | x1 :: x3 :: cs2, hl, hc =>
      obtain ⟨es2, css2, g1, g2, g3, g4, g5⟩ := bl_sdr hs hB hS (cs2 := cs2) h2 (by simp only [List.flatten_cons, List.length_append, List.length_cons, List.length_nil] at hl; omega) (fun j x hx => by have := hc (j + 2) x (by simpa using hx); simpa using this)
      obtain ⟨D2, g6, g7⟩ := bl_data hs hB hS h13
      have q1 : ∃ a, x1 = .int .i64 a := by
        rcases hc 0 _ rfl with h | ⟨k, y, z, h3, h4⟩
        · exact ⟨e.1, by simpa using h⟩
        · injection h3 with h3; subst h3; exact ⟨z, by simpa using h4⟩
      have q3 : x3 = u3 := by
        rcases hc 1 _ rfl with h | ⟨k, y, z, h3, h4⟩
        · simpa using h
        · subst h3
          obtain ⟨_, _, _, _, h, _⟩ := h13.sl_e
          cases h
      obtain ⟨T2, rfl⟩ := q1
      subst q3
      refine ⟨(T2, D2) :: es2, [.int .i64 T2, x3] :: css2, by simp [g1], ?_, by simp [g3], ?_, ?_⟩
      · intro x hx
        rcases List.mem_cons.1 hx with rfl | hx
        · rfl
        · exact g2 x hx
      · intro x hx
        rcases List.mem_cons.1 hx with rfl | hx
        · exact ⟨e, by simp, g6⟩
        · obtain ⟨e0, h5, h6⟩ := g4 x hx
          exact ⟨e0, by simp [h5], h6⟩
      · simp only [List.map_cons, DnLL]
        refine ⟨_, _, rfl, ?_, g5⟩
        simp only [sdC, DnL]
        exact ⟨_, _, rfl, by simp only [Dn], _, _, rfl, g7, rfl⟩
    | [], hl, _ => simp at hl
    | [_], hl, _ => simp at hl
theorem bl_sds {C C' : Cx} (hs : ShpS C.S C.B C.w C'.w) (hB : C'.B = C.B) (hS : ∀ k, C.S k → C'.S k) {es : List Msg} {u : Value} (h : Dn C (.sl true (es.map (sdC true))) u) : ∃ es2 : List Msg, es2.length = es.length ∧ (∀ e ∈ es2, ∃ e0 ∈ es, e.2.length = e0.2.length) ∧ Dn C' (.sl true (es2.map (sdC true))) u := by
  obtain ⟨A, c, css, sz, rfl, h2, h3, h4, h5, h6, h7⟩ := h.sl_e
  cases A with
  | none =>
    have := h4 rfl
    rw [List.map_eq_nil_iff] at this
    subst this
    exact ⟨[], rfl, by simp, Dn.sl_m (css := []) (sz := 0) h2 h3 (fun _ => rfl) (by simp) (by simp [DnLL]) (fun ad ha => by cases ha)⟩
  | some ad =>
    obtain ⟨h8, h9⟩ := h7 ad rfl
    obtain ⟨cs2, g1, g2, g3⟩ := bl_cells hs.s (ad := ad) css.flatten h9
    obtain ⟨es2, css2, k1, k2, k3, k4, k5⟩ := bl_sdr hs hB hS h6 g1 g3
    refine ⟨es2, k3, k4, ?_⟩
    have e1 : (es.map (sdC true)).length = (es2.map (sdC true)).length := by simp [k3]
    rw [e1] at h2 ⊢
    refine Dn.sl_m (sz := 2) h2 h3 (fun h => by cases h) k2 k5 (fun ad' ha => ?_)
    injection ha with ha
    subst ha
    refine ⟨fun hne => bl_sl hs hB hS (h8 fun h0 => hne ?_), fun j x hx => g2 j x (by rw [k1] at hx; exact hx)⟩
    rw [List.map_eq_nil_iff] at h0 ⊢
    subst h0
    exact List.eq_nil_of_length_eq_zero k3
/-- Rows of the same shape. -/
structure ShD (a b : List Msg) : Prop where
  n : a.length = b.length
  b : ∀ e ∈ a, ∃ e0 ∈ b, e.2.length = e0.2.length
theorem ShD.refl (a : List Msg) : ShD a a := ⟨rfl, fun e he => ⟨e, he, rfl⟩⟩
theorem ShD.trans {a b c : List Msg} (h : ShD a b) (g : ShD b c) : ShD a c := ⟨h.n.trans g.n, fun e he => by
  obtain ⟨e0, h1, h2⟩ := h.b e he
  obtain ⟨e1, h3, h4⟩ := g.b e0 h1
  exact ⟨e1, h3, h2.trans h4⟩⟩
theorem ShD.le {a b : List Msg} {m : Nat} (h : ShD a b) (hb : ∀ e ∈ b, e.2.length ≤ m) : ∀ e ∈ a, e.2.length ≤ m := fun e he => by
  obtain ⟨e0, h1, h2⟩ := h.b e he
  rw [h2]; exact hb e0 h1
def sdX (l : List Msg) : XV := .p (.sl true (l.map (sdC true))) (nl_sd _ _).sl
def boxX (t : Int) (l : List Int) : List XV := [.p (.v (.int .i64 t)) (nlv _), .p (.sl true (l.map by1)) (nl_by1 _).sl]
/-- What is still told behind a byte that was written. -/
theorem bl_in {h : List XLB} {e : Env} {j d : Nat} {ty : TypeId} {t : Int} {l0 : List Msg} {b0 : List Int} (hj : hget h j = .cells ty (boxX t b0)) (hd : look e d = sdX l0) (C C' : Cx) (hs : ShpS C.S C.B C.w C'.w) (hB : C'.B = C.B) (hS : ∀ k, C.S k → C'.S k) (us : Nat → List Value) (xs : Nat → Value)
    (h1 : ∀ i ty cs, hget h i = .cells ty cs → DnL C (XV.denL cs) (us i)) (h2 : ∀ p ∈ [(d, fun y : List Msg × List Int => sdX y.1)], Dn C (look e p.1).den (xs p.1)) :
    ∃ y : List Msg × List Int, (ShD y.1 l0 ∧ y.2.length = b0.length) ∧ (∀ i V ty cs, dsL [(j, fun y : List Msg × List Int => boxX t y.2)] i = some V → hget h i = .cells ty cs → DnL C' (XV.denL (V y)) (us i)) ∧ ∀ p ∈ [(d, fun y : List Msg × List Int => sdX y.1)], Dn C' (p.2 y).den (xs p.1) := by
  have g1 := h1 j ty _ hj
  simp only [boxX, XV.denL, XV.den, DnL] at g1
  obtain ⟨u1, us1, e1, g2, u2, us2, rfl, g3, rfl⟩ := g1
  simp only [Dn] at g2
  subst g2
  obtain ⟨b2, g4, g5⟩ := bl_data hs hB hS g3
  have g6 := h2 _ (List.mem_cons_self)
  rw [hd] at g6
  obtain ⟨l2, g7, g8, g9⟩ := bl_sds hs hB hS (show Dn C (.sl true (l0.map (sdC true))) (xs d) from g6)
  refine ⟨(l2, b2), ⟨⟨g7, g8⟩, g4⟩, fun i V ty' cs hV hi => ?_, fun p hp => ?_⟩
  · simp only [dsL] at hV
    cases hb : Nat.beq j i with
    | false => rw [hb] at hV; cases hV
    | true =>
      rw [hb] at hV
      simp only [Option.some.injEq] at hV
      subst hV
      obtain rfl := Nat.eq_of_beq_eq_true hb
      rw [e1]
      simp only [boxX, XV.denL, XV.den, DnL]
      exact ⟨_, _, rfl, by simp only [Dn], _, _, rfl, g5, rfl⟩
  · rw [List.mem_singleton.1 hp]
    exact g9
/-- slices.Clone of bytes, by what it makes. -/
theorem cloneB_X (b : Bool) (l : List Int) (hn : l.length ≤ 1000000) : XMeets Try.prog 30 [.sl b (l.map by1)] (.p (.sl true (l.map by1)) (nl_by1 l).sl) := ⟨clone_byte.1, fun C vals _ hd => by
  simp only [DnL] at hd
  obtain ⟨u, us, rfl, g5, rfl⟩ := hd
  obtain ⟨A, c, css, r1, _, _, r2, r3, r4⟩ := dn_sees g5 (by_len l) clone_byte.2.1
  subst r1
  have hfl := dnll_by1 r3
  have hll : (l.map by1).length = l.length := by simp
  refine (clone_byte.2.2 A _ c css.flatten C.w r2 (by rw [hll]; exact hn) (fun v hv => ?_)).mono ?_
  · rw [hfl] at hv
    obtain ⟨x, _, rfl⟩ := List.mem_map.1 hv
    rfl
  · rintro e' w' ⟨A', c', rfl, ho', hb⟩
    refine ⟨_, .nilFunc, rfl, hb, fun g hg => (by cases hg), ?_⟩
    have h3 : DnLL (rsCx C.w.heap.size w' .nilFunc) (l.map by1) css := by
      have key : ∀ (l : List Int) (css : List (List Value)), DnLL C (l.map by1) css → DnLL (rsCx C.w.heap.size w' .nilFunc) (l.map by1) css := by
        intro l
        induction l with
        | nil => intro css h; simp only [List.map_nil, DnLL] at h ⊢; exact h
        | cons x l ih =>
          intro css h
          simp only [List.map_cons, DnLL, by1, DnL, Dn] at h ⊢
          obtain ⟨u, us, h1, h2, h3⟩ := h
          exact ⟨u, us, h1, h2, ih us h3⟩
      exact key l css r3
    simp only [XV.den]
    refine row_sl (base := C.w.heap.size) ho' r4 h3 (fun ad ha => ⟨?_, fun h => by cases h⟩) (fun _ => Nat.le_refl _)
    subst ha
    exact own_above ho'⟩
theorem cloneT_X (b : Bool) (l : List Int) (k : Nat) (els : List (List TV)) (he : els = (l.take k).map by1) (hn : (l.take k).length ≤ 1000000) : XMeets Try.prog 30 [.sl b els] (.p (.sl true ((l.take k).map by1)) (nl_by1 _).sl) := by
  subst he
  exact cloneB_X b _ hn
end Go.Proofs.Ytmhmldpccccjbaa
