/- Logs as trees; what was walked of them by hand, as contracts over trees. No condition. -/
import Derived.Test.YtpckkajodpiiaaaE14
import Derived.Test.YtpckkajodpiiaaaT10
import Derived.Test.YtpckkajodpiiaaaTy
namespace Go.Proofs.Ytpckkajodpiiaaa
open Go.RowKit
set_option linter.unusedVariables false
set_option linter.unusedSimpArgs false

def byC (x : Int) : List TV := [.v (.int .u8 x)]
def entC (b : Bool) (e : Ent) : List TV := [.v (.int .u64 e.T), .v (.int .i64 e.K), .sl b (e.D.map byC)]
theorem untag_bytes (l : List Int) : untagLL (l.map byC) = l.map byC := by
  rw [untagLL_map]
  rfl
theorem untag_ents (b : Bool) (es : List Ent) : untagLL (es.map (entC b)) = es.map (entC false) := by
  rw [untagLL_map]
  refine List.map_congr_left fun e _ => ?_
  simp only [entC, untagL, untag, untag_bytes]
theorem pu_bytes (l : List Int) : PuLL (l.map byC) := PuLL_map _ _ fun x _ => by simp [byC, PuL, Pu]
theorem pu_ents (b : Bool) (es : List Ent) : PuLL (es.map (entC b)) := PuLL_map _ _ fun e _ => by simp [entC, PuL, Pu, pu_bytes]
theorem fr_bytes (l : List Int) : FrLL (l.map byC) := FrLL_map _ _ fun x _ => by simp [byC, FrL, Fr]
theorem fr_ents (es : List Ent) : FrLL (es.map (entC true)) := FrLL_map _ _ fun e _ => by simp [entC, FrL, Fr, fr_bytes]
theorem kp_bytes (p : Nat → Bool) (l : List Int) : kpLL p (l.map byC) = l.map byC := by
  rw [kpLL_map]
  rfl
theorem kp_ents (p : Nat → Bool) (b : Bool) (es : List Ent) : kpLL p (es.map (entC b)) = es.map (entC b) := by
  rw [kpLL_map]
  refine List.map_congr_left fun e _ => ?_
  simp only [entC, kpL, kp, kp_bytes]
def logT (i t : Int) (s : TV) : TV := .agg [.v (.int .u64 i), .v (.int .u64 t), s]
def atT (x : Int × Int) : TV := .agg [.v (.int .u64 x.1), .v (.int .u64 x.2)]

/-- An entry's Term is a number of its kind. -/
def wfE (es : List Ent) : Prop := ∀ e ∈ es, 0 ≤ e.T ∧ e.T < 18446744073709551616

theorem bytes_of_dn {C : Cx} {b : Bool} {l : List Int} {u : Value} (h : Dn C (.sl b (l.map byC)) u) : ∃ A n c, u = .slice A n c ∧ n = l.length ∧ n ≤ c ∧ c ≤ maxLen ∧ Sees C.w none 1 A n (ib .u8 l) := by
  obtain ⟨A, c, css, h1, h2, h3, h4, h5, h6⟩ := dn_sees (sz := 1) h (fun c hc => by obtain ⟨x, _, rfl⟩ := List.mem_map.1 hc; rfl) (by omega)
  simp only [List.length_map] at h1 h2 h4
  refine ⟨A, l.length, c, h1, rfl, h2, h3, ?_⟩
  have : css.flatten = ib .u8 l := by
    clear h h1 h2 h3 h4 h6
    induction l generalizing css with
    | nil => simp only [List.map_nil, DnLL] at h5; subst h5; rfl
    | cons x l ih =>
      simp only [List.map_cons, DnLL] at h5
      obtain ⟨u, us, rfl, h6, h7⟩ := h5
      simp only [byC, DnL, Dn] at h6
      obtain ⟨v, vs, rfl, rfl, rfl⟩ := h6
      simp [ib, ih us h7]
  rw [this] at h4
  exact h4
theorem ents_of_dn {C : Cx} {b b' : Bool} {es : List Ent} {u : Value} (h : Dn C (.sl b (es.map (entC b'))) u) (hw : wfE es) :
    ∃ A n c ps, u = .slice A n c ∧ n = es.length ∧ n ≤ c ∧ c ≤ maxLen ∧ SeesE C.w none A n ps ∧ Go.Proofs.Ytpckkajodpiiaaa.es ps = es ∧ ∀ p ∈ ps, p.n = p.e.D.length := by
  obtain ⟨A, c, css, h1, h2, h3, h4, h5, h6⟩ := dn_sees (sz := 3) h (fun c hc => by obtain ⟨x, _, rfl⟩ := List.mem_map.1 hc; rfl) (by omega)
  simp only [List.length_map] at h1 h2 h4
  have : ∃ ps : List EP, css.flatten = em ps ∧ Go.Proofs.Ytpckkajodpiiaaa.es ps = es ∧ (∀ p ∈ ps, DataE C.w p) ∧ ∀ p ∈ ps, p.n = p.e.D.length := by
    clear h h1 h2 h3 h4 h6
    induction es generalizing css with
    | nil => simp only [List.map_nil, DnLL] at h5; subst h5; exact ⟨[], rfl, rfl, by simp, by simp⟩
    | cons e es ih =>
      simp only [List.map_cons, DnLL] at h5
      obtain ⟨u, us, rfl, h6, h7⟩ := h5
      obtain ⟨ps, h8, h9, h10, h11⟩ := ih (fun x hx => hw x (by simp [hx])) us h7
      simp only [entC, DnL] at h6
      obtain ⟨v1, r1, rfl, e1, v2, r2, rfl, e2, v3, r3, rfl, e3, rfl⟩ := h6
      obtain ⟨A', n', c', rfl, hn, hnc, hcm, hS⟩ := bytes_of_dn e3
      simp only [Dn] at e1 e2
      subst e1 e2
      have hwe := hw e (by simp)
      refine ⟨⟨e, A', n', c'⟩ :: ps, ?_, ?_, ?_, ?_⟩
      · rw [List.flatten_cons, h8]
        unfold em
        rw [List.flatMap_cons]
      · unfold Go.Proofs.Ytpckkajodpiiaaa.es at h9 ⊢
        rw [List.map_cons, h9]
      · intro p hp
        rcases List.mem_cons.1 hp with rfl | hp
        · exact ⟨hS, hnc, hcm, hwe.1, hwe.2⟩
        · exact h10 p hp
      · intro p hp
        rcases List.mem_cons.1 hp with rfl | hp
        · exact hn
        · exact h11 p hp
  obtain ⟨ps, h7, h8, h9, h10⟩ := this
  rw [h7] at h4
  exact ⟨A, es.length, c, ps, h1, rfl, h2, h3, ⟨h4, h9⟩, h8, h10⟩
/-- An owned row of entries as a result. -/
theorem osl_of_own {base : Nat} {w' : World} {A : Option Addr} {n c : Nat} {qs : List EP} (h : OwnE w' base A n c qs) :
    Dn (rsCx base w' (.slice A n c)) (.osl 46 3 ((es qs).map (entC true))) (.slice A n c) := by
  have hn : n = qs.length := h.sees.len.symm
  subst hn
  simp only [Dn, List.length_map]
  have hl : (es qs).length = qs.length := by simp [es]
  rw [hl]
  refine ⟨A, c, qs.map (fun p => [.int .u64 p.e.T, .int .i64 p.e.K, .slice p.A p.n p.c]), rfl, ⟨rfl, ?_⟩, fun x hx => by obtain ⟨p, _, rfl⟩ := List.mem_map.1 hx; rfl, ?_⟩
  · have : (qs.map (fun p => [Value.int .u64 p.e.T, .int .i64 p.e.K, .slice p.A p.n p.c])).flatten = em qs := by simp [em, List.flatMap]
    rw [this]
    exact h.1
  · have key : ∀ l : List EP, (∀ p ∈ l, Fresh base w' p) → (∀ p ∈ l, ∀ ad, p.A = some ad → 0 < p.n → blkOf (.slice A qs.length c) ≠ some ad.block) → DnLL (rsCx base w' (.slice A qs.length c)) ((es l).map (entC true)) (l.map (fun p => [.int .u64 p.e.T, .int .i64 p.e.K, .slice p.A p.n p.c])) := by
      intro l
      induction l with
      | nil => intro _ _; simp [es, DnLL]
      | cons p l ih =>
        intro h1 h2
        have hp := h1 p (by simp)
        simp only [es, List.map_cons]
        refine DnLL.cons ?_ (ih (fun q hq => h1 q (by simp [hq])) (fun q hq => h2 q (by simp [hq])))
        refine DnL.cons (by simp [Dn]) (DnL.cons (by simp [Dn]) (DnL.cons ?_ DnL.nil))
        have hlen := hp.1.len
        simp only [Dn, List.length_map]
        rw [hlen]
        refine ⟨p.A, p.c, p.e.D.map (fun x => [.int .u8 x]), 1, rfl, hp.1.nc, hp.1.small, fun ha => ?_, fun x hx => by obtain ⟨y, _, rfl⟩ := List.mem_map.1 hx; rfl, ?_, fun ad ha => ⟨fun hne => ?_, fun j x hx => ?_⟩⟩
        · have := hp.1.sees.2.1 ha
          have : p.e.D = [] := List.eq_nil_of_length_eq_zero (by omega)
          rw [this]; rfl
        · have k2 : ∀ m : List Int, DnLL (rsCx base w' (.slice A qs.length c)) (m.map byC) (m.map fun x => [.int .u8 x]) := by
            intro m
            induction m with
            | nil => simp [DnLL]
            | cons x m ih => exact DnLL.cons (by simp [byC, DnL, Dn]) ih
          exact k2 _
        · have hpos : 0 < p.n := by
            rcases Nat.eq_zero_or_pos p.n with h0 | h0
            · exfalso
              apply hne
              have : p.e.D = [] := List.eq_nil_of_length_eq_zero (by omega)
              rw [this]; rfl
            · exact h0
          exact ⟨⟨(hp.2.2 ad ha).1, h2 p (by simp) ad ha hpos⟩, hp.1.sees.lt hpos ha, fun _ => ⟨(hp.2.2 ad ha).1, (hp.2.2 ad ha).2 hpos⟩⟩
        · have : (p.e.D.map (fun x => [Value.int .u8 x])).flatten = ib .u8 p.e.D := by
            generalize p.e.D = m
            induction m with
            | nil => rfl
            | cons x m ih => simp [ib] at ih ⊢; exact ih
          rw [this] at hx
          exact (hp.1.sees.2.2 ad ha).2 j x hx
    refine key qs h.2 (fun p hp ad ha hpos he => ?_)
    rcases A with _ | a0
    · cases he
    · simp only [blkOf, Option.some.injEq] at he
      rcases h.1.2 with ⟨hv, _⟩ | ⟨g, cap, cur, hv, _⟩
      · cases hv
      · have hv' := hv
        injection hv' with hA
        injection hA with hA
        subst hA
        exact own_sees_ne h.1 (h.2 p hp).2.1 (by decide) ad ha hpos he.symm
theorem Dn.agg {C : Cx} {ts : List TV} {vs : List Value} (h : DnL C ts vs) : Dn C (.agg ts) (.agg vs.toArray) := by
  simp only [Dn]
  exact ⟨vs, rfl, h⟩
theorem scalar_res {base : Nat} {w w' : World} {v : Value} (hb : Below w.heap.size w w') : ∃ u ov, Ending.returned v = .returned u ∧ Below w.heap.size w w' ∧ (∀ g, blkOf ov = some g → w.heap.size ≤ g ∧ g < w'.heap.size) ∧ Dn (rsCx w.heap.size w' ov) (.v v) u :=
  ⟨v, .nilFunc, rfl, hb, fun g hg => (by cases hg), by simp [Dn]⟩

section
variable (b b' : Bool) (i t : Int) (es : List Ent) (hw : wfE es) (hn : es.length ≤ 1000000000) (hi0 : 0 ≤ i) (hi1 : i < 18446744073709551616)
theorem log_args {C : Cx} {vals : List Value} {ts : List TV} {b b' : Bool} {i t : Int} {es : List Ent} (h : DnL C (logT i t (.sl b (es.map (entC b'))) :: ts) vals) (hw : wfE es) : ∃ A n c ps us, vals = logV i t A n c :: us ∧ n = es.length ∧ n ≤ c ∧ c ≤ maxLen ∧ SeesE C.w none A n ps ∧ Go.Proofs.Ytpckkajodpiiaaa.es ps = es ∧ (∀ p ∈ ps, p.n = p.e.D.length) ∧ DnL C ts us := by
  simp only [logT, DnL, Dn] at h
  obtain ⟨u, us, rfl, ⟨vs, rfl, v1, r1, rfl, rfl, v2, r2, rfl, rfl, v3, r3, rfl, e3, rfl⟩, h2⟩ := h
  obtain ⟨A, n, c, ps, rfl, h3, h4, h5, h6, h7, h8⟩ := ents_of_dn (b := b) (b' := b') (by simp only [Dn]; exact e3) hw
  exact ⟨A, n, c, ps, us, rfl, h3, h4, h5, h6, h7, h8, h2⟩
include hw hn hi0 hi1
theorem may_T : TMeets Try.prog 45 [logT i t (.sl b (es.map (entC b')))] (.v (.bool (mayB i t es))) := fun C vals _ hd => by
  obtain ⟨A, n, c, ps, us, rfl, h1, h2, h3, h4, rfl, h6, h7⟩ := log_args hd hw
  simp only [DnL] at h7
  subst h7
  have hl : n ≤ 1000000000 := by omega
  refine (may_any i t A n c ps C.w h4 hl hi0 hi1).mono ?_
  rintro e w' ⟨rfl, hb⟩
  exact scalar_res (base := 0) hb
theorem end_T : TMeets Try.prog 47 [logT i t (.sl b (es.map (entC b')))] (atT (spotN i t es es.length)) := fun C vals _ hd => by
  obtain ⟨A, n, c, ps, us, rfl, h1, h2, h3, h4, rfl, h6, h7⟩ := log_args hd hw
  simp only [DnL] at h7
  subst h7
  have hl : n ≤ 1000000000 := by omega
  refine (end_any i t A n c ps C.w h4 hl hi0 hi1).mono ?_
  rintro e w' ⟨rfl, hb⟩
  rw [h1]
  exact ⟨_, .nilFunc, rfl, hb, fun g hg => (by cases hg), by simp [atT, atV, Dn, DnL]⟩
theorem of_T (x : Int) : TMeets Try.prog 50 [logT i t (.sl b (es.map (entC b'))), .v (.int .u64 x)] (.v (.int .i64 (ofN i x es.length))) := fun C vals _ hd => by
  obtain ⟨A, n, c, ps, us, rfl, h1, h2, h3, h4, rfl, h6, h7⟩ := log_args hd hw
  simp only [DnL, Dn] at h7
  obtain ⟨_, _, rfl, rfl, rfl⟩ := h7
  have hl : n ≤ 1000000000 := by omega
  refine (of_any i t A n c ps x C.w h4 hl hi0 hi1).mono ?_
  rintro e w' ⟨rfl, hb⟩
  rw [h1]
  exact scalar_res (base := 0) hb
theorem spot_T (k : Nat) (hk : k ≤ es.length) : TMeets Try.prog 62 [logT i t (.sl b (es.map (entC b'))), .v (.int .i64 k)] (atT (spotN i t es k)) := fun C vals _ hd => by
  obtain ⟨A, n, c, ps, us, rfl, h1, h2, h3, h4, rfl, h6, h7⟩ := log_args hd hw
  simp only [DnL, Dn] at h7
  obtain ⟨_, _, rfl, rfl, rfl⟩ := h7
  have hl : n ≤ 1000000000 := by omega
  refine (spot_any i t A n c ps k C.w h4 hl (by omega) hi0 hi1).mono ?_
  rintro e w' ⟨rfl, hb⟩
  exact ⟨_, .nilFunc, rfl, hb, fun g hg => (by cases hg), by simp [atT, atV, Dn, DnL]⟩
theorem right_T (ht0 : 0 ≤ t) : TMeets Try.prog 19 [logT i t (.sl b (es.map (entC b')))] (.v (.bool (mayB i t es))) := fun C vals _ hd => by
  obtain ⟨A, n, c, ps, us, rfl, h1, h2, h3, h4, rfl, h6, h7⟩ := log_args hd hw
  simp only [DnL] at h7
  subst h7
  have hl : n ≤ 1000000000 := by omega
  refine (lright_any i t A n c ps C.w h4 h2 hl hi0 hi1 ht0).mono ?_
  rintro e w' ⟨rfl, hb⟩
  exact scalar_res (base := 0) hb
theorem part_T (hdl : ∀ e ∈ es, e.D.length ≤ 1000000000000) (f u : Nat) (hfu : f ≤ u) (hu : u ≤ es.length) : TMeets Try.prog 49 [logT i t (.sl b (es.map (entC b'))), .v (.int .i64 f), .v (.int .i64 u)]
    (logT (spotN i t es f).1 (spotN i t es f).2 (.osl 46 3 (((es.take u).drop f).map (entC true)))) := fun C vals _ hd => by
  obtain ⟨A, n, c, ps, us, rfl, h1, h2, h3, h4, hes, h6, h7⟩ := log_args hd hw
  simp only [DnL, Dn] at h7
  obtain ⟨_, _, rfl, rfl, _, _, rfl, rfl, rfl⟩ := h7
  have hl : n ≤ 1000000000 := by omega
  have hps : ∀ p ∈ ps, p.n ≤ 1000000000000 := fun p hp => by
    rw [h6 p hp]
    exact hdl p.e (by rw [← hes]; exact List.mem_map.2 ⟨p, hp, rfl⟩)
  refine (part_any i t A n c ps f u C.w h4 h2 hl hfu (by omega) hi0 hi1 hps).mono ?_
  rintro e w' ⟨A', c', qs, rfl, h8, h9, hb⟩
  have h10 := osl_of_own h9
  rw [h8] at h10
  have h11 : Go.Proofs.Ytpckkajodpiiaaa.es ((ps.take u).drop f) = (es.take u).drop f := by
    rw [← hes]
    simp [Go.Proofs.Ytpckkajodpiiaaa.es, List.map_drop, List.map_take]
  rw [h11] at h10
  rw [hes]
  refine ⟨_, .slice A' (u - f) c', rfl, hb, fun g hg => ?_, ?_⟩
  · exact h9.1.lt g (by cases A' <;> exact hg)
  · simp only [logT, logV]
    exact Dn.agg (DnL.cons (by simp [Dn]) (DnL.cons (by simp [Dn]) (DnL.cons h10 DnL.nil)))
end
section
variable (b b' : Bool) (es : List Ent) (hw : wfE es) (hn : es.length ≤ 1000000000)
include hw hn
theorem stand_T (t : Int) : TMeets Try.prog 67 [.sl b (es.map (entC b')), .v (.int .u64 t)] (.v (.bool (standB es t))) := fun C vals _ hd => by
  simp only [DnL] at hd
  obtain ⟨u, us, rfl, h1, _, _, rfl, h2, rfl⟩ := hd
  simp only [show ∀ x u, Dn C (.v x) u ↔ u = x from fun _ _ => by simp [Dn]] at h2
  subst h2
  obtain ⟨A, n, c, ps, rfl, h3, h4, h5, h6, rfl, h8⟩ := ents_of_dn h1 hw
  refine (stand_any A n c ps t C.w h6 (by omega)).mono ?_
  rintro e w' ⟨rfl, hb⟩
  exact scalar_res (base := 0) hb
end
section
variable (i : Int) (n : Nat) (h0 : 0 ≤ i) (h1 : i < 18446744073709551616) (hn : n ≤ 9223372036854775807)
include h0 h1 hn
theorem room_T : TMeets Try.prog 66 [.v (.int .u64 i), .v (.int .i64 n)] (.v (.bool (roomB i n))) := fun C vals _ hd => by
  simp only [DnL, Dn] at hd
  obtain ⟨_, _, rfl, rfl, _, _, rfl, rfl, rfl⟩ := hd
  refine (room_any i n C.w h0 h1 hn).mono ?_
  rintro e w' ⟨rfl, rfl⟩
  exact scalar_res (base := 0) (Below.refl _ _)
end
theorem cloned_T (b b' : Bool) (es : List Ent) (hw : wfE es) (hn : es.length ≤ 1000000000) (hdl : ∀ e ∈ es, e.D.length ≤ 1000000000000) : TMeets Try.prog 68 [.sl b (es.map (entC b'))] (.osl 46 3 (es.map (entC true))) := fun C vals _ hd => by
  simp only [DnL] at hd
  obtain ⟨u, us, rfl, h1, rfl⟩ := hd
  obtain ⟨A, n, c, ps, rfl, h3, h4, h5, h6, hes, h8⟩ := ents_of_dn h1 hw
  have hps : ∀ p ∈ ps, p.n ≤ 1000000000000 := fun p hp => by
    rw [h8 p hp]
    exact hdl p.e (by rw [← hes]; exact List.mem_map.2 ⟨p, hp, rfl⟩)
  refine (cloned_any A n c ps C.w h6 (by omega) hps).mono ?_
  rintro e w' ⟨A', c', qs, rfl, h9, h10, hb⟩
  have h11 := osl_of_own h10
  rw [h9, hes] at h11
  refine ⟨_, .slice A' n c', rfl, hb, fun g hg => ?_, h11⟩
  exact h10.1.lt g (by cases A' <;> exact hg)
end Go.Proofs.Ytpckkajodpiiaaa
