/- Numbers counted up in place, in bytes made behind a mark, where local blocks stay. No condition. -/
import Derived.Test.YtmhmldpccccjbaaU9
import Derived.Test.YtmhmldpccccjbaaU8
import Derived.Test.YtmhmldpccccjbaaU12
namespace Go.Proofs.Ytmhmldpccccjbaa
open Go.RowKit
set_option linter.unusedVariables false
set_option linter.unusedSimpArgs false

/-- Numbers are written over numbers behind a mark, in blocks of which may be spoken alone. -/
structure ShpS (S : Nat → Prop) (M : Nat) (w w' : World) : Prop where
  s : Shp M w w'
  k : ∀ k, k < w.heap.size → ¬ S k → w'.heap[k]? = w.heap[k]?
theorem ShpS.refl (S : Nat → Prop) (M : Nat) (w : World) : ShpS S M w w := ⟨.refl _ _, fun _ _ _ => rfl⟩
theorem ShpS.grow {S : Nat → Prop} {M : Nat} {w w' w2 : World} (h : ShpS S M w w') (hM : M ≤ w'.heap.size) (hb : Below w'.heap.size w' w2) : ShpS S M w w2 where
  s := h.s.grow hM hb
  k k hk hs := (hb.block k (Nat.lt_of_lt_of_le hk h.s.below.size)).trans (h.k k hk hs)
theorem ShpS.set {S : Nat → Prop} {M : Nat} {w w' : World} (h : ShpS S M w w') {q : Addr} (hq : M ≤ q.block) (hS : S q.block) {k : IntKind} (hc : ICell w' q k) (y : Int) : ShpS S M w (w'.setCell q (.int k y)) where
  s := h.s.set hq hc y
  k j hj hs := (Below.heap_setCell _ _ _ j (fun e => hs (e ▸ hS))).trans (h.k j hj hs)
/-- A function that writes numbers over numbers in what was made behind a mark, and in no local block. -/
def SpL (P : Program) (f : FuncId) (ts : List TV) : Prop := entB P f = true ∧ ∀ (C : Cx) (vals : List Value), C.B ≤ C.w.heap.size → DnL C ts vals → Calls P f vals.toArray C.w fun e w' => e = .returned (.tuple #[]) ∧ ShpS C.S C.B C.w w'
theorem SpL.sp {P : Program} {f : FuncId} {ts : List TV} (h : SpL P f ts) : SpM P f ts := ⟨h.1, fun C vals hB hd => (h.2 C vals hB hd).mono fun e w' hh => ⟨hh.1, hh.2.s.below⟩⟩
/-- What is told of some. -/
def dsL {α : Type} : List (Nat × α) → Nat → Option α
  | [], _ => none
  | (i, v) :: r, j => match Nat.beq i j with
    | true => some v
    | false => dsL r j
def isCells : XLB → Bool
  | .cells _ _ => true
  | _ => false
theorem dsL_all {α : Type} {q : Nat → Bool} : ∀ {ds : List (Nat × α)} {i : Nat} {v : α}, (ds.all fun p => q p.1) = true → dsL ds i = some v → q i = true
  | [], i, v, _, h => by cases h
  | (j, w) :: r, i, v, ha, h => by
    simp only [List.all_cons, Bool.and_eq_true] at ha
    simp only [dsL] at h
    cases hb : Nat.beq j i with
    | true => rw [← Nat.eq_of_beq_eq_true hb]; exact ha.1
    | false => rw [hb] at h; exact dsL_all ha.2 h
def keepB {Y : Type} (ds : List (Nat × (Y → List XV))) (y : Y) (i : Nat) : XLB → XLB
  | .cells t _ => match dsL ds i with
    | some V => .cells t (V y)
    | none => .none
  | _ => .none
def keepK {Y : Type} (ds : List (Nat × (Y → List XV))) (y : Y) : Nat → List XLB → (List XLB → Prop) → Prop
  | _, [], k => k []
  | i, b :: r, k => keepK ds y (i + 1) r fun r' => match b with
    | .cells t _ => match dsL ds i with
      | some V => k (.cells t (V y) :: r')
      | none => k (.none :: r')
    | _ => k (.none :: r')
def keepH {Y : Type} (ds : List (Nat × (Y → List XV))) (y : Y) : Nat → List XLB → List XLB
  | _, [] => []
  | i, b :: r => keepB ds y i b :: keepH ds y (i + 1) r
theorem keepK_ok {Y : Type} {ds : List (Nat × (Y → List XV))} {y : Y} : ∀ {i : Nat} {h : List XLB} {k : List XLB → Prop}, keepK ds y i h k → k (keepH ds y i h)
  | _, [], _, hh => hh
  | i, b :: r, k, hh => by
    have := keepK_ok (i := i + 1) (h := r) hh
    simp only [keepH]
    cases b with
    | cells t cs =>
      simp only [keepB]
      simp only at this
      cases hd : dsL ds i with
      | none => rw [hd] at this; exact this
      | some V => rw [hd] at this; exact this
    | none => exact this
    | row _ _ _ _ => exact this
theorem keepH_get {Y : Type} {ds : List (Nat × (Y → List XV))} {y : Y} : ∀ {h : List XLB} {i j : Nat}, hget (keepH ds y i h) j = keepB ds y (i + j) (hget h j)
  | [], i, j => rfl
  | b :: r, i, 0 => rfl
  | b :: r, i, j + 1 => by
    show hget (keepH ds y (i + 1) r) j = keepB ds y (i + (j + 1)) (hget r j)
    rw [keepH_get, show i + 1 + j = i + (j + 1) by omega]
def ssE {Y : Type} (ss : List (Nat × (Y → XV))) (y : Y) : Env := match ss with
  | [] => []
  | (d, v) :: r => (d, v y) :: ssE r y
theorem ssE_look {Y : Type} {y : Y} {e : Env} : ∀ {ss : List (Nat × (Y → XV))} {d : Nat}, (∃ p ∈ ss, p.1 = d ∧ look (ssE ss y ++ e) d = p.2 y) ∨ look (ssE ss y ++ e) d = look e d
  | [], d => .inr rfl
  | (d0, v) :: r, d => by
    simp only [ssE, List.cons_append, look]
    cases hb : Nat.beq d0 d with
    | true => exact .inl ⟨(d0, v), by simp, Nat.eq_of_beq_eq_true hb, rfl⟩
    | false =>
      rcases ssE_look (ss := r) (d := d) with ⟨p, h1, h2, h3⟩ | h1
      · exact .inl ⟨p, by simp [h1], h2, h3⟩
      · exact .inr h1
def dgX {Y : Type} (ds : List (Nat × (Y → List XV))) : XV → XV
  | .p (.v x) h => .p (.v x) h
  | .p .nil_ h => .p .nil_ h
  | .pin u t h => .pin u t h
  | .ptr i off => match dsL ds i with
    | some _ => .ptr i off
    | none => .any
  | _ => .any
theorem dg_dn {Y : Type} {ds : List (Nat × (Y → List XV))} {C C' : Cx} {v : XV} {u : Value} (hp : ∀ i, (dsL ds i).isSome = true → C.pres i → C'.pres i ∧ C'.ρ i = C.ρ i) (h : Dn C v.den u) : Dn C' (dgX ds v).den u := by
  cases v with
  | p t hn => cases t <;> simp only [dgX, XV.den, Dn] at h ⊢ <;> exact h
  | pin x t hn => simp only [dgX, XV.den, Dn] at h ⊢; exact h
  | ptr i off =>
    simp only [dgX]
    cases hd : dsL ds i with
    | none => simp [XV.den, Dn]
    | some V =>
      simp only [XV.den, Dn] at h ⊢
      obtain ⟨h1, g, h2, h3⟩ := h
      obtain ⟨h4, h5⟩ := hp i (by rw [hd]; rfl) h1
      exact ⟨h4, g, by rw [h5]; exact h2, h3⟩
  | _ => simp [dgX, XV.den, Dn]
theorem cxOf_here {B : Nat} {ρ : Nat → Value} {h h' : Nat → LB} {w : World} (hh : ∀ i, (h i).here ↔ (h' i).here) : cxOf B ρ h w = cxOf B ρ h' w := by
  unfold cxOf
  have e1 : (fun i => (h i).here) = fun i => (h' i).here := funext fun i => propext (hh i)
  have e2 : (fun k => ∀ i, (h i).here → blkOf (ρ i) ≠ some k) = fun k => ∀ i, (h' i).here → blkOf (ρ i) ≠ some k := funext fun k => propext ⟨fun H i hi => H i ((hh i).2 hi), fun H i hi => H i ((hh i).1 hi)⟩
  rw [e1, e2]
section
variable {P : Program} {B : Nat} {w0 : World} {n : Nat} {e : Env} {h : List XLB} {gs : Frames}
/-- Some local blocks and slots are known by their shape behind the call. -/
theorem WCall.spoilL {f : FuncId} {vs : List XV} {dst : Option Tmp} {k : KK} {Y : Type} (ds : List (Nat × (Y → List XV))) (ss : List (Nat × (Y → XV))) (r : Y → Prop) {ts : List TV} (hs : SpL P f ts) (ha : XV.denL vs = ts) (hss : (ss.all fun p => Nat.blt p.1 n) = true) (hcs : (ds.all fun p => isCells (hget h p.1)) = true)
    (hbl : ∀ (C C' : Cx), ShpS C.S C.B C.w C'.w → C'.B = C.B → (∀ k, C.S k → C'.S k) → ∀ (us : Nat → List Value) (xs : Nat → Value), (∀ i t cs, hget h i = .cells t cs → DnL C (XV.denL cs) (us i)) → (∀ p ∈ ss, Dn C (look e p.1).den (xs p.1)) → ∃ y, r y ∧ (∀ i V t cs, dsL ds i = some V → hget h i = .cells t cs → DnL C' (XV.denL (V y)) (us i)) ∧ ∀ p ∈ ss, Dn C' (p.2 y).den (xs p.1))
    (hk : ∀ y, r y → keepK ds y 0 h fun h2 => forceE (ssE ss y ++ mapE (dgX ds) e) fun e2 => putK n e2 dst .any fun e' => k e' h2 (anyG gs)) : WCall P B w0 f vs n e h gs dst k := ⟨by
  intro gh Q ops rest o cl fop cvs hg ho hcl hf hvs hdst hK ρ a w hr
  subst hdst
  refine wpList_plain hg fun K0 hK0 => ?_
  have e1 : XV.denL vs = cl.args.toList.map (tev (toL n e)) ++ XV.denL cvs := by rw [hvs, denL_map (_ ++ _), List.map_append, ← denL_map, ← denL_map, evL_den]
  rw [ha] at e1
  have R := hr.rel
  have g1 := tev_dn hr.slots fop
  rw [show (xst n e h gs).s = toL n e from rfl, hf] at g1
  simp only [Dn] at g1
  obtain ⟨cv, g2, g3⟩ := g1
  have g4 : DnL (cxOf B ρ (Go.Proofs.Ytmhmldpccccjbaa.hf (h.map XLB.den)) w) (cl.args.toList.map (tev (toL n e)) ++ XV.denL cvs) (cl.args.toList.map a.eval ++ cv) := (eval_list _ fun x _ => tev_dn hr.slots x).append g3
  rw [← e1] at g4
  have h6 := hs.2 (cxOf B ρ (Go.Proofs.Ytmhmldpccccjbaa.hf (h.map XLB.den)) w) _ R.size g4
  have e2 : (cl.args.map a.eval ++ cv.toArray) = (cl.args.toList.map a.eval ++ cv).toArray := by
    apply Array.ext'
    simp
  unfold Oper.wp
  rw [call_run ho hcl g2 hs.1]
  unfold Oper.upon
  rw [e2]
  refine h6.mono ?_
  rintro ex w' ⟨rfl, hb⟩
  have hblk : ∀ i, ∃ us : List Value, ∀ t cs, hget h i = .cells t cs → (∃ g, ρ i = .pointer (some ⟨g, 0, none⟩) ∧ Blk w g t us.toArray ∧ B ≤ g) ∧ DnL (cxOf B ρ (Go.Proofs.Ytmhmldpccccjbaa.hf (h.map XLB.den)) w) (XV.denL cs) us := fun i => by
    cases hi : hget h i with
    | cells t cs =>
      have h2 : Go.Proofs.Ytmhmldpccccjbaa.hf (h.map XLB.den) i = .cells t (XV.denL cs) := by rw [← hget_den, hi]; rfl
      obtain ⟨g, us, q1, q2, q3, q4⟩ := R.blk i _ _ h2
      exact ⟨us, fun t' cs' e => by injection e with e1 e2; subst e1 e2; exact ⟨⟨g, q1, q2, q3⟩, q4⟩⟩
    | _ => exact ⟨[], fun t cs e => by cases e⟩
  obtain ⟨us, hus⟩ := Classical.axiomOfChoice hblk
  obtain ⟨xs, hxs⟩ : ∃ xs : Nat → Value, ∀ d (u : Value), a.tmps.toList[d]? = some u → xs d = u := ⟨fun d => (a.tmps.toList[d]?).getD .nilFunc, fun d u hu => by simp [hu]⟩
  have hssn : ∀ p ∈ ss, p.1 < n := fun p hp => Nat.blt_eq.mp (List.all_eq_true.1 hss p hp)
  obtain ⟨hx, hhx⟩ : ∃ hx : Nat → LB, ∀ i, (hx i).here ↔ ∃ V t cs, dsL ds i = some V ∧ hget h i = .cells t cs := by
    classical
    refine ⟨fun i => if ∃ V t cs, dsL ds i = some V ∧ hget h i = .cells t cs then .cells 0 [] else .none, fun i => ?_⟩
    by_cases hc : ∃ V t cs, dsL ds i = some V ∧ hget h i = .cells t cs
    · simp only [if_pos hc]; exact ⟨fun _ => hc, fun _ => trivial⟩
    · simp only [if_neg hc]; exact ⟨fun hh => hh.elim, fun hh => absurd hh hc⟩
  have hin : ∀ i, (hx i).here → (Go.Proofs.Ytmhmldpccccjbaa.hf (h.map XLB.den) i).here := fun i hi => by
    obtain ⟨V, t, cs, _, h2⟩ := (hhx i).1 hi
    rw [← hget_den, h2]
    trivial
  obtain ⟨y, hy, hy1, hy2⟩ := hbl (cxOf B ρ (Go.Proofs.Ytmhmldpccccjbaa.hf (h.map XLB.den)) w) (cxOf B ρ hx w') hb rfl (fun k hk i hi => hk i (hin i hi)) us xs (fun i t cs hi => (hus i t cs hi).2) (fun p hp => by
    obtain ⟨u, hu, hu2⟩ := hr.slots.at_ p.1 _ (toL_get? e (hssn p hp))
    rw [hxs _ _ hu]; exact hu2)
  obtain ⟨e', he', hk2⟩ := putK_ok (forceE_ok (k := fun e2 => putK n e2 o.dst .any fun e' => k e' (keepH ds y 0 h) (anyG gs)) (keepK_ok (hk y hy)))
  have hK := hK _ _ _ hk2
  have hden : ∀ i, Go.Proofs.Ytmhmldpccccjbaa.hf ((keepH ds y 0 h).map XLB.den) i = (keepB ds y i (hget h i)).den := fun i => by rw [← hget_den, keepH_get, Nat.zero_add]
  have hiff : ∀ i, (Go.Proofs.Ytmhmldpccccjbaa.hf ((keepH ds y 0 h).map XLB.den) i).here ↔ (hx i).here := fun i => by
    rw [hden, hhx]
    cases h2 : hget h i with
    | cells t cs =>
      cases h1 : dsL ds i with
      | none => simp [keepB, h1, XLB.den, LB.here]
      | some V => simp [keepB, h1, XLB.den, LB.here]
    | none => simp [keepB, XLB.den, LB.here]
    | row _ _ _ _ => simp [keepB, XLB.den, LB.here]
  have hC : cxOf B ρ (Go.Proofs.Ytmhmldpccccjbaa.hf ((keepH ds y 0 h).map XLB.den)) w' = cxOf B ρ hx w' := cxOf_here hiff
  have hcell : ∀ i t cs, Go.Proofs.Ytmhmldpccccjbaa.hf ((keepH ds y 0 h).map XLB.den) i = .cells t cs → ∃ V cs0, dsL ds i = some V ∧ hget h i = .cells t cs0 ∧ cs = XV.denL (V y) := fun i t cs hi => by
    rw [hden] at hi
    cases h2 : hget h i with
    | cells t2 cs2 =>
      rw [h2] at hi
      cases h1 : dsL ds i with
      | none => simp only [keepB, h1, XLB.den] at hi; cases hi
      | some V =>
        simp only [keepB, h1, XLB.den] at hi
        injection hi with hi1 hi2
        subst hi1 hi2
        exact ⟨V, cs2, rfl, rfl, rfl⟩
    | none => rw [h2] at hi; simp only [keepB, XLB.den] at hi; cases hi
    | row _ _ _ _ => rw [h2] at hi; simp only [keepB, XLB.den] at hi; cases hi
  have hrow : ∀ i e0 sz els, Go.Proofs.Ytmhmldpccccjbaa.hf ((keepH ds y 0 h).map XLB.den) i ≠ .row e0 sz els := fun i e0 sz els hi => by
    rw [hden] at hi
    cases h2 : hget h i with
    | cells t2 cs2 =>
      rw [h2] at hi
      cases h1 : dsL ds i <;> simp only [keepB, h1, XLB.den] at hi <;> cases hi
    | none => rw [h2] at hi; simp only [keepB, XLB.den] at hi; cases hi
    | row _ _ _ _ => rw [h2] at hi; simp only [keepB, XLB.den] at hi; cases hi
  have hR2 : Rel B w0 ρ (Go.Proofs.Ytmhmldpccccjbaa.hf ((keepH ds y 0 h).map XLB.den)) w' := {
    below := R.below.trans hb.s.below
    gl0 := R.gl0
    size := Nat.le_trans R.size hb.s.below.size
    blk := fun i t cs hi => by
      obtain ⟨V, cs0, h1, h2, rfl⟩ := hcell i t cs hi
      obtain ⟨⟨g, q1, q2, q3⟩, _⟩ := hus i t cs0 h2
      refine ⟨g, us i, q1, ?_, q3, by rw [hC]; exact hy1 i V t cs0 h1 h2⟩
      have hh : (Go.Proofs.Ytmhmldpccccjbaa.hf (h.map XLB.den) i).here := by rw [← hget_den, h2]; trivial
      have hlt : g < w.heap.size := q2.lt
      show w'.heap[g]? = _
      rw [hb.k g hlt fun hS => hS i hh (by rw [q1]; rfl)]
      exact q2
    row := fun i e0 sz els hi => absurd hi (hrow i e0 sz els)
    sep := fun i j g hi hj h1 h2 => R.sep i j g (hin i ((hiff i).1 hi)) (hin j ((hiff j).1 hj)) h1 h2
    inj := fun i g hi h1 => Nat.lt_of_lt_of_le (R.inj i g (hin i ((hiff i).1 hi)) h1) hb.s.below.size }
  refine hK0 _ _ (hK ρ _ _ ⟨?_, anyG_dn hr.ghost, hR2, by rw [put_defers]; exact hr.defers⟩)
  show DnL (cxOf B ρ (Go.Proofs.Ytmhmldpccccjbaa.hf ((keepH ds y 0 h).map XLB.den)) w') (toL n e') _
  rw [he', hC]
  refine put_dn ?_ (by simp [XV.den, Dn])
  refine DnL.of_at (by rw [hr.slots.len]; exact (toL_len n _).trans (toL_len n e).symm) fun i t u ht hu => ?_
  obtain ⟨hi, rfl⟩ := toL_at ht
  obtain ⟨u', h3, h4⟩ := hr.slots.at_ i _ (toL_get? e hi)
  rw [hu] at h3
  injection h3 with h3
  subst h3
  rcases ssE_look (ss := ss) (y := y) (e := mapE (dgX ds) e) (d := i) with ⟨p, h5, h6, h7⟩ | h5
  · rw [h7]
    have := hy2 p h5
    rwa [h6, hxs i u hu] at this
  · rw [h5, look_map (f := dgX ds) rfl]
    refine dg_dn (C := cxOf B ρ (Go.Proofs.Ytmhmldpccccjbaa.hf (h.map XLB.den)) w) (fun j hj hpj => ⟨?_, rfl⟩) h4
    show (hx j).here
    rw [hhx]
    cases hd : dsL ds j with
    | none => rw [hd] at hj; cases hj
    | some V =>
      cases h8 : hget h j with
      | cells t cs => exact ⟨V, t, cs, rfl, rfl⟩
      | none => exact absurd hpj (by show ¬ (Go.Proofs.Ytmhmldpccccjbaa.hf (h.map XLB.den) j).here; rw [← hget_den, h8]; simp [XLB.den, LB.here])
      | row e1 sz els hp => exact absurd (dsL_all (q := fun j => isCells (hget h j)) hcs hd) (by simp [h8, isCells])⟩
end
end Go.Proofs.Ytmhmldpccccjbaa

namespace Go.Proofs.Ytmhmldpccccjbaa
open Go.RowKit
set_option linter.unusedVariables false
set_option linter.unusedSimpArgs false

theorem dropE_look : ∀ (e : Env) (ds : List Nat) (d : Nat), memN d ds = false → look (dropE ds e) d = look e d
  | [], _, _, _ => rfl
  | (i, v) :: r, ds, d, h => by
    simp only [dropE]
    cases hm : memN i ds with
    | true =>
      have hne : i ≠ d := fun e => by rw [e, h] at hm; cases hm
      rw [look_ne r v hne]
      exact dropE_look r ds d h
    | false =>
      by_cases hd : i = d
      · subst hd
        rw [look_same, look_same]
      · rw [look_ne _ v hd, look_ne r v hd]
        refine dropE_look r (i :: ds) d ?_
        have hb : Nat.beq i d = false := by
          cases hb : Nat.beq i d with
          | false => rfl
          | true => exact absurd (Nat.eq_of_beq_eq_true hb) hd
        simp only [memN, hb, h]
theorem toL_drop (n : Nat) (e : Env) : toL n (dropE [] e) = toL n e := by
  unfold toL
  exact List.map_congr_left fun d _ => by rw [dropE_look e [] d rfl]
def tidyG : Frames → Frames
  | [] => []
  | (n, e) :: r => (n, dropE [] e) :: tidyG r
theorem denG_tidy : ∀ gs : Frames, denG (tidyG gs) = denG gs
  | [] => rfl
  | (n, e) :: r => by simp only [tidyG, denG, toL_drop, denG_tidy r]
mutual
/-- Only local blocks below m are spoken of. -/
def lowB (m : Nat) : XV → Bool
  | .p _ _ => true
  | .any => true
  | .row j => Nat.blt j m
  | .ptr j _ => Nat.blt j m
  | .rp j _ _ _ => Nat.blt j m
  | .ag vs => lowBL m vs
  | .tu vs => lowBL m vs
  | .fu _ vs => lowBL m vs
  | .ow _ _ _ _ => true
  | .pin _ _ _ => true
def lowBL (m : Nat) : List XV → Bool
  | [] => true
  | v :: vs => match lowB m v with
    | true => lowBL m vs
    | false => false
end
mutual
theorem lowX_id {m : Nat} : ∀ v : XV, lowB m v = true → lowX m v = v
  | .p _ _, _ => rfl
  | .any, _ => rfl
  | .row j, h => by simp only [lowB] at h; simp only [lowX, h]
  | .ptr j _, h => by simp only [lowB] at h; simp only [lowX, h]
  | .rp j _ _ _, h => by simp only [lowB] at h; simp only [lowX, h]
  | .ag vs, h => by simp only [lowB] at h; simp only [lowX, lowXL_id vs h]
  | .tu vs, h => by simp only [lowB] at h; simp only [lowX, lowXL_id vs h]
  | .fu _ vs, h => by simp only [lowB] at h; simp only [lowX, lowXL_id vs h]
  | .ow _ _ _ _, _ => rfl
  | .pin _ _ _, _ => rfl
theorem lowXL_id {m : Nat} : ∀ vs : List XV, lowBL m vs = true → lowXL m vs = vs
  | [], _ => rfl
  | v :: vs, h => by
    simp only [lowBL] at h
    split at h
    · rename_i h1
      simp only [lowXL, lowX_id v h1, lowXL_id vs h]
    · cases h
end
def lowE (m : Nat) : List Nat → Env → Bool
  | _, [] => true
  | ds, x :: r => match memN x.1 ds with
    | true => false
    | false => match lowB m x.2 with
      | true => lowE m (x.1 :: ds) r
      | false => false
theorem memN_ne {d i : Nat} {ds : List Nat} (h : memN d ds = false) (hi : i ∈ ds) : i ≠ d := by
  induction ds with
  | nil => cases hi
  | cons x r ih =>
    simp only [memN] at h
    cases hb : Nat.beq x d with
    | true => rw [hb] at h; cases h
    | false =>
      rw [hb] at h
      rcases List.mem_cons.1 hi with rfl | hi
      · exact Nat.ne_of_beq_eq_false hb
      · exact ih h hi
theorem lowE_le {m : Nat} : ∀ {r pre : Env} {ds : List Nat}, (∀ x ∈ pre, x.1 ∈ ds) → lowE m ds r = true → LeEnv m (pre ++ r) r
  | [], _, _, _, _ => True.intro
  | x :: r, pre, ds, hp, h => by
    simp only [lowE] at h
    split at h
    · cases h
    · rename_i h1
      split at h
      · rename_i h2
        have e1 : look (pre ++ x :: r) x.1 = x.2 := by
          have h3 : ∀ y ∈ pre, y.1 ≠ x.1 := fun y hy => memN_ne h1 (hp y hy)
          clear hp
          induction pre with
          | nil => exact look_same r x.1 x.2
          | cons y p ih =>
            have := look_ne (p ++ x :: r) y.2 (h3 y (List.mem_cons_self ..))
            exact this.trans (ih fun z hz => h3 z (List.mem_cons_of_mem _ hz))
        refine ⟨by rw [e1, lowX_id _ h2]; exact .rfl, ?_⟩
        have := lowE_le (m := m) (r := r) (pre := pre ++ [x]) (ds := x.1 :: ds) (fun y hy => by
          rcases List.mem_append.1 hy with hy | hy
          · exact List.mem_cons_of_mem _ (hp y hy)
          · rw [List.mem_singleton.1 hy]; exact List.mem_cons_self ..) h
        rwa [List.append_assoc] at this
      · cases h
def lowG (m : Nat) : Frames → Bool
  | [] => true
  | f :: r => match lowE m [] f.2 with
    | true => lowG m r
    | false => false
/-- Frames whose slots are told once, and that speak of local blocks below m alone. -/
theorem LeFr.same {m : Nat} : ∀ {gs : Frames}, lowG m gs = true → LeFr m gs gs
  | [], _ => rfl
  | f :: r, h => by
    simp only [lowG] at h
    split at h
    · rename_i h1
      exact ⟨f, r, rfl, rfl, lowE_le (pre := []) (fun _ hx => by cases hx) h1, LeFr.same h⟩
    · cases h
section
variable {P : Program} {B : Nat} {w0 : World} {T : Tab} {n : Nat} {e : Env} {h : List XLB} {gs : Frames} {K : XQ} {c : Code}
/-- Steps told one by one: what the kernel then compares stays small. -/
theorem X.skip {T : Tab} (hx : K .normal e h gs) : X P B w0 T n .skip e h gs K := hx
/-- What was written over is struck, here and in the frames that wait. -/
theorem XT.tidy (hx : forceE (dropE [] e) fun e' => forceG (tidyG gs) fun gs' => XT P B w0 n c e' h gs' K) : XT P B w0 n c e h gs K := ⟨fun gh Q hq => by
  have := (forceG_ok (k := fun gs' => XT P B w0 n c (dropE [] e) h gs' K) (forceE_ok (k := fun e' => forceG (tidyG gs) fun gs' => XT P B w0 n c e' h gs' K) hx)).ok gh Q hq
  have e1 : xst n (dropE [] e) h (tidyG gs) = xst n e h gs := by simp only [xst, toL_drop, denG_tidy]
  rwa [e1] at this⟩
end
end Go.Proofs.Ytmhmldpccccjbaa

namespace Go.Proofs.Ytmhmldpccccjbaa
open Go.RowKit
set_option linter.unusedVariables false
set_option linter.unusedSimpArgs false

section
variable {P : Program} {B : Nat} {w0 : World} {n : Nat} {e : Env} {h : List XLB} {gs : Frames}
/-- What local blocks and slots are behind numbers that were written over numbers. -/
theorem shpS_rel {gh : List Value} {ρ : Nat → Value} {a : Act} {w w' : World} {Y : Type} (ds : List (Nat × (Y → List XV))) (ss : List (Nat × (Y → XV))) (r : Y → Prop) (hr : RelS B w0 gh ρ (xst n e h gs) a w) (hb : ShpS (cxOf B ρ (Go.Proofs.Ytmhmldpccccjbaa.hf (h.map XLB.den)) w).S B w w') (hss : (ss.all fun p => Nat.blt p.1 n) = true) (hcs : (ds.all fun p => isCells (hget h p.1)) = true)
    (hbl : ∀ (C C' : Cx), ShpS C.S C.B C.w C'.w → C'.B = C.B → (∀ k, C.S k → C'.S k) → ∀ (us : Nat → List Value) (xs : Nat → Value), (∀ i t cs, hget h i = .cells t cs → DnL C (XV.denL cs) (us i)) → (∀ p ∈ ss, Dn C (look e p.1).den (xs p.1)) → ∃ y, r y ∧ (∀ i V t cs, dsL ds i = some V → hget h i = .cells t cs → DnL C' (XV.denL (V y)) (us i)) ∧ ∀ p ∈ ss, Dn C' (p.2 y).den (xs p.1)) :
    ∃ y, r y ∧ Rel B w0 ρ (Go.Proofs.Ytmhmldpccccjbaa.hf ((keepH ds y 0 h).map XLB.den)) w' ∧ DnL (cxOf B ρ (Go.Proofs.Ytmhmldpccccjbaa.hf ((keepH ds y 0 h).map XLB.den)) w') (toL n (ssE ss y ++ mapE (dgX ds) e)) a.tmps.toList := by
  have R := hr.rel
  have hblk : ∀ i, ∃ us : List Value, ∀ t cs, hget h i = .cells t cs → (∃ g, ρ i = .pointer (some ⟨g, 0, none⟩) ∧ Blk w g t us.toArray ∧ B ≤ g) ∧ DnL (cxOf B ρ (Go.Proofs.Ytmhmldpccccjbaa.hf (h.map XLB.den)) w) (XV.denL cs) us := fun i => by
    cases hi : hget h i with
    | cells t cs =>
      have h2 : Go.Proofs.Ytmhmldpccccjbaa.hf (h.map XLB.den) i = .cells t (XV.denL cs) := by rw [← hget_den, hi]; rfl
      obtain ⟨g, us, q1, q2, q3, q4⟩ := R.blk i _ _ h2
      exact ⟨us, fun t' cs' e => by injection e with e1 e2; subst e1 e2; exact ⟨⟨g, q1, q2, q3⟩, q4⟩⟩
    | _ => exact ⟨[], fun t cs e => by cases e⟩
  obtain ⟨us, hus⟩ := Classical.axiomOfChoice hblk
  obtain ⟨xs, hxs⟩ : ∃ xs : Nat → Value, ∀ d (u : Value), a.tmps.toList[d]? = some u → xs d = u := ⟨fun d => (a.tmps.toList[d]?).getD .nilFunc, fun d u hu => by simp [hu]⟩
  have hssn : ∀ p ∈ ss, p.1 < n := fun p hp => Nat.blt_eq.mp (List.all_eq_true.1 hss p hp)
  obtain ⟨hx, hhx⟩ : ∃ hx : Nat → LB, ∀ i, (hx i).here ↔ ∃ V t cs, dsL ds i = some V ∧ hget h i = .cells t cs := by
    classical
    refine ⟨fun i => if ∃ V t cs, dsL ds i = some V ∧ hget h i = .cells t cs then .cells 0 [] else .none, fun i => ?_⟩
    by_cases hc : ∃ V t cs, dsL ds i = some V ∧ hget h i = .cells t cs
    · simp only [if_pos hc]; exact ⟨fun _ => hc, fun _ => trivial⟩
    · simp only [if_neg hc]; exact ⟨fun hh => hh.elim, fun hh => absurd hh hc⟩
  have hin : ∀ i, (hx i).here → (Go.Proofs.Ytmhmldpccccjbaa.hf (h.map XLB.den) i).here := fun i hi => by
    obtain ⟨V, t, cs, _, h2⟩ := (hhx i).1 hi
    rw [← hget_den, h2]
    trivial
  obtain ⟨y, hy, hy1, hy2⟩ := hbl (cxOf B ρ (Go.Proofs.Ytmhmldpccccjbaa.hf (h.map XLB.den)) w) (cxOf B ρ hx w') hb rfl (fun k hk i hi => hk i (hin i hi)) us xs (fun i t cs hi => (hus i t cs hi).2) (fun p hp => by
    obtain ⟨u, hu, hu2⟩ := hr.slots.at_ p.1 _ (toL_get? e (hssn p hp))
    rw [hxs _ _ hu]; exact hu2)
  have hden : ∀ i, Go.Proofs.Ytmhmldpccccjbaa.hf ((keepH ds y 0 h).map XLB.den) i = (keepB ds y i (hget h i)).den := fun i => by rw [← hget_den, keepH_get, Nat.zero_add]
  have hiff : ∀ i, (Go.Proofs.Ytmhmldpccccjbaa.hf ((keepH ds y 0 h).map XLB.den) i).here ↔ (hx i).here := fun i => by
    rw [hden, hhx]
    cases h2 : hget h i with
    | cells t cs =>
      cases h1 : dsL ds i with
      | none => simp [keepB, h1, XLB.den, LB.here]
      | some V => simp [keepB, h1, XLB.den, LB.here]
    | none => simp [keepB, XLB.den, LB.here]
    | row _ _ _ _ => simp [keepB, XLB.den, LB.here]
  have hC : cxOf B ρ (Go.Proofs.Ytmhmldpccccjbaa.hf ((keepH ds y 0 h).map XLB.den)) w' = cxOf B ρ hx w' := cxOf_here hiff
  have hcell : ∀ i t cs, Go.Proofs.Ytmhmldpccccjbaa.hf ((keepH ds y 0 h).map XLB.den) i = .cells t cs → ∃ V cs0, dsL ds i = some V ∧ hget h i = .cells t cs0 ∧ cs = XV.denL (V y) := fun i t cs hi => by
    rw [hden] at hi
    cases h2 : hget h i with
    | cells t2 cs2 =>
      rw [h2] at hi
      cases h1 : dsL ds i with
      | none => simp only [keepB, h1, XLB.den] at hi; cases hi
      | some V =>
        simp only [keepB, h1, XLB.den] at hi
        injection hi with hi1 hi2
        subst hi1 hi2
        exact ⟨V, cs2, rfl, rfl, rfl⟩
    | none => rw [h2] at hi; simp only [keepB, XLB.den] at hi; cases hi
    | row _ _ _ _ => rw [h2] at hi; simp only [keepB, XLB.den] at hi; cases hi
  have hrow : ∀ i e0 sz els, Go.Proofs.Ytmhmldpccccjbaa.hf ((keepH ds y 0 h).map XLB.den) i ≠ .row e0 sz els := fun i e0 sz els hi => by
    rw [hden] at hi
    cases h2 : hget h i with
    | cells t2 cs2 =>
      rw [h2] at hi
      cases h1 : dsL ds i <;> simp only [keepB, h1, XLB.den] at hi <;> cases hi
    | none => rw [h2] at hi; simp only [keepB, XLB.den] at hi; cases hi
    | row _ _ _ _ => rw [h2] at hi; simp only [keepB, XLB.den] at hi; cases hi
  refine ⟨y, hy, {
    below := R.below.trans hb.s.below
    gl0 := R.gl0
    size := Nat.le_trans R.size hb.s.below.size
    blk := fun i t cs hi => by
      obtain ⟨V, cs0, h1, h2, rfl⟩ := hcell i t cs hi
      obtain ⟨⟨g, q1, q2, q3⟩, _⟩ := hus i t cs0 h2
      refine ⟨g, us i, q1, ?_, q3, by rw [hC]; exact hy1 i V t cs0 h1 h2⟩
      have hh : (Go.Proofs.Ytmhmldpccccjbaa.hf (h.map XLB.den) i).here := by rw [← hget_den, h2]; trivial
      have hlt : g < w.heap.size := q2.lt
      show w'.heap[g]? = _
      rw [hb.k g hlt fun hS => hS i hh (by rw [q1]; rfl)]
      exact q2
    row := fun i e0 sz els hi => absurd hi (hrow i e0 sz els)
    sep := fun i j g hi hj h1 h2 => R.sep i j g (hin i ((hiff i).1 hi)) (hin j ((hiff j).1 hj)) h1 h2
    inj := fun i g hi h1 => Nat.lt_of_lt_of_le (R.inj i g (hin i ((hiff i).1 hi)) h1) hb.s.below.size }, ?_⟩
  rw [hC]
  refine DnL.of_at (by rw [hr.slots.len]; exact (toL_len n _).trans (toL_len n e).symm) fun i t u ht hu => ?_
  obtain ⟨hi, rfl⟩ := toL_at ht
  obtain ⟨u', h3, h4⟩ := hr.slots.at_ i _ (toL_get? e hi)
  rw [hu] at h3
  injection h3 with h3
  subst h3
  rcases ssE_look (ss := ss) (y := y) (e := mapE (dgX ds) e) (d := i) with ⟨p, h5, h6, h7⟩ | h5
  · rw [h7]
    have := hy2 p h5
    rwa [h6, hxs i u hu] at this
  · rw [h5, look_map (f := dgX ds) rfl]
    refine dg_dn (C := cxOf B ρ (Go.Proofs.Ytmhmldpccccjbaa.hf (h.map XLB.den)) w) (fun j hj hpj => ⟨?_, rfl⟩) h4
    show (hx j).here
    rw [hhx]
    cases hd : dsL ds j with
    | none => rw [hd] at hj; cases hj
    | some V =>
      cases h8 : hget h j with
      | cells t cs => exact ⟨V, t, cs, rfl, rfl⟩
      | none => exact absurd hpj (by show ¬ (Go.Proofs.Ytmhmldpccccjbaa.hf (h.map XLB.den) j).here; rw [← hget_den, h8]; simp [XLB.den, LB.here])
      | row e1 sz els hp => exact absurd (dsL_all (q := fun j => isCells (hget h j)) hcs hd) (by simp [h8, isCells])
end
section
variable {P : Program} {B : Nat} {w0 : World} {gh : List Value} {ops : Array Oper}
/-- A cell of bytes that were made behind the mark is written over: no local block is. -/
theorem TL.overS {Q : Exit → St → Prop} {σ : St} {o6 o7 : Oper} {t u : TypeId} {x y z : Operand} {s6 : Nat} {l : List Int} {j : Nat} {m : Int} {ti te tu : TI}
    (h6 : o6.guard = none ∧ o6.op = .indexAddr t x y ∧ o6.dst = some s6) (h7 : o7.guard = none ∧ o7.op = .store u (.tmp s6) z ∧ o7.dst = none) (ht : tiOf P t = some ti) (hk : ti.k = 3) (he : tiOf P ti.el = some te) (hte : te.n = 1) (hu : tiOf P u = some tu) (hun : tu.n = 1)
    (hx : tev σ.s x = .sl true (l.map by1)) (hy : tev σ.s y = .v (.int .i64 (j : Int))) (hj : j < l.length) (hz : ∀ v, tev (σ.s.set s6 v) z = .v (.int .u8 m)) (hs : s6 < σ.s.length)
    (h : ∀ ρ a w w' p, RelS B w0 gh ρ σ a w → ShpS (cxOf B ρ (hf σ.h) w).S B w w' → liftQ B w0 gh Q .normal (a.put (some s6) p) w') : TL P B w0 gh ops [o6, o7] σ Q := fun ρ a w hr => by
  obtain ⟨hg6, ho6, hd6⟩ := h6
  obtain ⟨hg7, ho7, hd7⟩ := h7
  have h1 := tev_dn hr.slots x
  have h2 := tev_dn hr.slots y
  rw [hx] at h1
  rw [hy] at h2
  simp only [Dn] at h1 h2
  obtain ⟨A, cap, css, sz, r1, r2, r3, r4, r5, r6, r7⟩ := h1
  have hll : (l.map by1).length = l.length := by simp
  have hne : l.map by1 ≠ [] := by intro h0; rw [List.map_eq_nil_iff] at h0; rw [h0] at hj; simp at hj
  rcases A with _ | ad
  · exact absurd (r4 rfl) hne
  obtain ⟨r8, r9⟩ := r7 ad rfl
  obtain ⟨r10, r11, r12⟩ := r8 hne
  obtain ⟨r13, r14⟩ := r12 trivial
  have hfl := dnll_by1 r6
  have hcell : w.cell? (ad.add j) = some (.int .u8 l[j]) := r9 j _ (by rw [hfl, List.getElem?_map, List.getElem?_eq_getElem hj]; rfl)
  have hfr : w.frozen? (ad.add j) = false := Unf.frozen (by rw [addr_block]; exact r14)
  have e6 : (execOp a.eval o6).run P w = .ok (.value (.pointer (some (ad.add j)))) w := by
    have : (j : Int) < ((l.map by1).length : Int) := by omega
    have hj2 : j < (l.map by1).length := by omega
    simp [execOp, ho6, h2, r1, Instr.indexAt, asInt_run, run_underlying (ti_slice ht hk), ti_size he, hte, hj]
  refine wpList_plain hg6 fun K hK => ?_
  unfold Oper.wp
  rw [e6]
  refine hK _ _ ?_
  have hs6 := put_dn (dst := some s6) (t := .v (.pointer (some (ad.add j)))) (u := .pointer (some (ad.add j))) hr.slots (by simp [Dn])
  have h3 := tev_dn hs6 z
  have h4 := tev_dn hs6 (.tmp s6)
  simp only at h3 h4
  rw [hz] at h3
  rw [show tev (σ.s.set s6 (.v (.pointer (some (ad.add j))))) (.tmp s6) = .v (.pointer (some (ad.add j))) by simp [tev, hs]] at h4
  simp only [Dn] at h3 h4
  rw [hd6]
  refine wpList_plain hg7 fun K hK => ?_
  unfold Oper.wp
  have hz0 : (ad.add j).add 0 = ad.add j := by simp [Addr.add]
  have e7 : (execOp (a.put (some s6) (.pointer (some (ad.add j)))).eval o7).run P w = .ok .skip (w.setCell (ad.add j) (.int .u8 m)) := by
    have e8 : (storeVar u (ad.add j) (.int .u8 m)).run P w = .ok () (w.setCell (ad.add j) (.int .u8 m)) := by
      simp [storeVar, ti_size hu, hun, Value.cells, storeCells, hz0, run_store P w (ad.add j) (.int .u8 m) .plain rfl, hcell, hfr]
    simp [execOp, ho7, h4, h3, Instr.storeAt, Instr.sureAddr, e8]
  rw [e7]
  refine hK _ _ ?_
  rw [hd7]
  exact h ρ a w _ _ hr ((ShpS.refl _ B w).set (by rw [addr_block]; exact r13) (by rw [addr_block]; exact r10) ⟨_, hcell⟩ m)
end
section
variable {P : Program} {B : Nat} {w0 : World} {T : Tab} {n : Nat} {e : Env} {h : List XLB} {gs : Frames} {K : XQ} {c : Code}
def lowsB (m : Nat) : Env → Bool
  | [] => true
  | x :: r => match lowB m x.2 with
    | true => lowsB m r
    | false => false
theorem memN_iff {d : Nat} : ∀ {ds : List Nat}, memN d ds = true ↔ d ∈ ds
  | [] => by simp [memN]
  | x :: r => by
    simp only [memN, List.mem_cons]
    cases hb : Nat.beq x d with
    | true => simp [(Nat.eq_of_beq_eq_true hb).symm]
    | false =>
      have hne : ¬ d = x := fun e => by subst e; simp at hb
      simp [hne, memN_iff (ds := r)]
theorem dropE_at : ∀ {e : Env} {ds : List Nat} {x : Nat × XV}, x ∈ dropE ds e → look e x.1 = x.2 ∧ x.1 ∉ ds
  | [], ds, x, h => by simp [dropE] at h
  | y :: r, ds, x, h => by
    simp only [dropE] at h
    cases hm : memN y.1 ds with
    | true =>
      rw [hm] at h
      obtain ⟨h1, h2⟩ := dropE_at h
      have hne : y.1 ≠ x.1 := fun e => h2 (e ▸ memN_iff.1 hm)
      exact ⟨(look_ne r y.2 hne).trans h1, h2⟩
    | false =>
      rw [hm] at h
      rcases List.mem_cons.1 h with rfl | h
      · exact ⟨look_same r x.1 x.2, fun hx => by rw [memN_iff.2 hx] at hm; cases hm⟩
      · obtain ⟨h1, h2⟩ := dropE_at h
        have hne : y.1 ≠ x.1 := fun e => h2 (e ▸ List.mem_cons_self)
        exact ⟨(look_ne r y.2 hne).trans h1, fun hx => h2 (List.mem_cons_of_mem _ hx)⟩
theorem leEnv_of {m : Nat} {e : Env} : ∀ {e' : Env}, (∀ x ∈ e', LeV (lowX m (look e x.1)) x.2) → LeEnv m e e'
  | [], _ => trivial
  | x :: r, h => ⟨h x (by simp), leEnv_of fun y hy => h y (by simp [hy])⟩
theorem lowsB_mem {m : Nat} : ∀ {e : Env}, lowsB m e = true → ∀ x ∈ e, lowB m x.2 = true
  | [], _, x, hx => by simp at hx
  | y :: r, h, x, hx => by
    simp only [lowsB] at h
    split at h
    · rename_i hy
      rcases List.mem_cons.1 hx with rfl | hx
      · exact hy
      · exact lowsB_mem h x hx
    · cases h
theorem leEnv_mem {m : Nat} {e : Env} : ∀ {e' : Env}, LeEnv m e e' → ∀ x ∈ e', LeV (lowX m (look e x.1)) x.2
  | [], _, x, hx => by simp at hx
  | y :: r, h, x, hx => by
    rcases List.mem_cons.1 hx with rfl | hx
    · exact h.1
    · exact leEnv_mem h.2 x hx
/-- The slots that were not written, in one step. -/
theorem leEnv_app {m : Nat} {e1 us e : Env} {ds : List Nat} (h2 : dropE ds e1 = dropE ds e) (h3 : lowsB m (dropE ds e) = true) (h1 : LeEnv m e1 us) : LeEnv m e1 (us ++ dropE ds e) := leEnv_of fun x hx => by
  rcases List.mem_append.1 hx with hx | hx
  · exact leEnv_mem h1 x hx
  · have h4 := lowX_id x.2 (lowsB_mem h3 x hx)
    rw [← h2] at hx
    rw [(dropE_at hx).1, h4]
    exact .rfl
/-- What a state says at least, when some rows are written no more. -/
def LeFz (e' : Env) (h' : List XLB) (gs' : Frames) : List Nat → Env → List XLB → Frames → Prop
  | [], e, h, gs => LeX e h gs e' h' gs'
  | j :: js, e, h, gs => frzK e h gs j fun e1 h1 gs1 => LeFz e' h' gs' js e1 h1 gs1
theorem LeFz.sle {e' : Env} {h' : List XLB} {gs' : Frames} (gh : List Value) : ∀ {js : List Nat} {e : Env} {h : List XLB} {gs : Frames}, LeFz e' h' gs' js e h gs → SLe B w0 gh (xst n e h gs) (xst n e' h' gs')
  | [], e, h, gs, hh => LeX.sle hh gh
  | j :: js, e, h, gs, hh => by
    obtain ⟨e1, h1, g1, h2, h3⟩ := frzK_ok (n := n) (B := B) (w0 := w0) hh
    exact (h2 gh).trans (LeFz.sle gh h3)
/-- Ways that meet: what is behind them is walked once. -/
theorem XT.cut (O : TabOk P T) {Y : Type} (ds : List Nat) (us : Y → Env) (hs : Y → List (Nat × XLB)) (r : Y → Prop)
    (ha : X P B w0 T n c e h gs fun ex e1 h1 g1 => match ex with
      | .normal => ∃ y, r y ∧ ∃ js, LeFz (us y ++ dropE ds e) (setsH h (hs y)) gs js e1 h1 g1
      | ex => K ex e1 h1 g1)
    (hb : ∀ y, r y → forceE (us y ++ dropE ds e) fun e' => forceH (setsH h (hs y)) fun h' => K .normal e' h' gs) : XT P B w0 n c e h gs K := ⟨fun gh Q hq ρ a w hr => by
  refine wp_mono ((X_ok O ha).ok gh (fun ex σ => match ex with
    | .normal => ∃ σ', SLe B w0 gh σ σ' ∧ Q .normal σ'
    | ex => Q ex σ) (fun ex e1 h1 gs1 hk => ?_) ρ a w hr) fun ex a w ⟨σ, ρ, h1, h2⟩ => ?_
  · cases ex with
    | normal =>
      obtain ⟨y, hy, js, hl⟩ := hk
      have := forceH_ok (k := fun h' => K .normal _ h' gs) (forceE_ok (k := fun e' => forceH (setsH h (hs y)) fun h' => K .normal e' h' gs) (hb y hy))
      exact ⟨_, hl.sle gh, hq _ _ _ _ this⟩
    | _ => exact hq _ _ _ _ hk
  · cases ex with
    | normal =>
      obtain ⟨σ', h3, h4⟩ := h1
      obtain ⟨ρ', h5⟩ := h3 ρ a w h2
      exact ⟨σ', ρ', h4, h5⟩
    | _ => exact ⟨σ, ρ, h1, h2⟩⟩
/-- The walk goes on behind a place where it stopped. -/
theorem XT.pass (O : TabOk P T) {a b : Code} (hx : X P B w0 T n a e h gs fun ex e h gs => match ex with
    | .normal => X P B w0 T n b e h gs K
    | ex => K ex e h gs) : XT P B w0 n (.seq a b) e h gs K := ⟨fun gh Q hq => by
  refine .seq ((X_ok O hx).ok gh _ fun ex e h gs h1 => ?_)
  cases ex with
  | normal => exact (X_ok O h1).ok gh Q hq
  | _ => exact hq _ _ _ _ h1⟩
/-- Some local blocks and slots are known by their shape, plain slots as they are, nothing else is known any more. -/
theorem XT.keep {Y : Type} (ds : List (Nat × (Y → List XV))) (ss : List (Nat × (Y → XV))) (r : Y → Prop) (hss : (ss.all fun p => Nat.blt p.1 n) = true) (hcs : (ds.all fun p => isCells (hget h p.1)) = true)
    (hbl : ∀ (C C' : Cx), ShpS C.S C.B C.w C'.w → C'.B = C.B → (∀ k, C.S k → C'.S k) → ∀ (us : Nat → List Value) (xs : Nat → Value), (∀ i t cs, hget h i = .cells t cs → DnL C (XV.denL cs) (us i)) → (∀ p ∈ ss, Dn C (look e p.1).den (xs p.1)) → ∃ y, r y ∧ (∀ i V t cs, dsL ds i = some V → hget h i = .cells t cs → DnL C' (XV.denL (V y)) (us i)) ∧ ∀ p ∈ ss, Dn C' (p.2 y).den (xs p.1))
    (hx : ∀ y, r y → keepK ds y 0 h fun h2 => forceE (ssE ss y ++ mapE (dgX ds) e) fun e2 => XT P B w0 n c e2 h2 (anyG gs) K) : XT P B w0 n c e h gs K := ⟨fun gh Q hq ρ a w hr => by
  obtain ⟨y, hy, hR2, hv⟩ := shpS_rel ds ss r hr (ShpS.refl _ _ _) hss hcs hbl
  refine (forceE_ok (k := fun e2 => XT P B w0 n c e2 (keepH ds y 0 h) (anyG gs) K) (keepK_ok (hx y hy))).ok gh Q hq ρ a w ⟨?_, anyG_dn hr.ghost, hR2, hr.defers⟩
  exact hv⟩
/-- `x[i] = ..` where x's bytes were made behind the mark: some local blocks and slots are known by their shape behind it, plain slots as they are, all others unknown. -/
theorem XT.overL (O : TabOk P T) {id : Nat} {a : Code} {ops : Array Oper} (mm : Nat) {o6 o7 : Oper} {t u : TypeId} {x y z : Operand} {s6 : Nat} {ti te tu : TI} {Y : Type} (ds : List (Nat × (Y → List XV))) (ss : List (Nat × (Y → XV))) (r : Y → Prop)
    (hops : ops.toList.drop mm = [o6, o7]) (h6 : o6.guard = none ∧ o6.op = .indexAddr t x y ∧ o6.dst = some s6) (h7 : o7.guard = none ∧ o7.op = .store u (.tmp s6) z ∧ o7.dst = none) (ht : tiOf P t = some ti) (hk : ti.k = 3) (he : tiOf P ti.el = some te) (hte : te.n = 1) (hu : tiOf P u = some tu) (hun : tu.n = 1)
    (hs : Nat.blt s6 n = true) (hss : (ss.all fun p => Nat.blt p.1 n) = true)
    (hx : X P B w0 T n a e h gs fun ex e h gs => match ex with
      | .normal => XL P B w0 T n ops.toList (ops.toList.take mm) e h gs fun e1 h1 gs1 => ∃ (l : List Int) (hp : Nl (.sl true (l.map by1))) (j : Nat) (hpj : Nl (.v (.int .i64 (j : Int)))) (m : Int), xev n e1 x = .p (.sl true (l.map by1)) hp ∧ xev n e1 y = .p (.v (.int .i64 (j : Int))) hpj ∧ j < l.length ∧
          (∀ v, tev ((toL n e1).set s6 v) z = .v (.int .u8 m)) ∧ (ds.all fun p => isCells (hget h1 p.1)) = true ∧
          (∀ (C C' : Cx), ShpS C.S C.B C.w C'.w → C'.B = C.B → (∀ k, C.S k → C'.S k) → ∀ (us : Nat → List Value) (xs : Nat → Value), (∀ i t cs, hget h1 i = .cells t cs → DnL C (XV.denL cs) (us i)) → (∀ p ∈ ss, Dn C (look e1 p.1).den (xs p.1)) → ∃ y, r y ∧ (∀ i V t cs, dsL ds i = some V → hget h1 i = .cells t cs → DnL C' (XV.denL (V y)) (us i)) ∧ ∀ p ∈ ss, Dn C' (p.2 y).den (xs p.1)) ∧
          ∀ y, r y → keepK ds y 0 h1 fun h2 => forceE (ssE ss y ++ mapE (dgX ds) e1) fun e2 => putK n e2 (some s6) .any fun e3 => K .normal e3 h2 (anyM gs1)
      | ex => K ex e h gs) : XT P B w0 n (.seq a (.region id ops false)) e h gs K := ⟨fun gh Q hq => by
  refine .seq ((X_ok O hx).ok gh _ fun ex e h gs h1 => ?_)
  cases ex <;> try exact hq _ _ _ _ h1
  refine .region ?_
  rw [← List.take_append_drop mm ops.toList, hops]
  refine .cat ?_
  refine XL_ok O ops gh _ h1 fun e1 h1 gs1 hh => ?_
  obtain ⟨l, hp, j, hpj, m, g1, g2, g3, g4, g5, g6, g7⟩ := hh
  have hsn := Nat.blt_eq.mp hs
  refine TL.overS h6 h7 ht hk he hte hu hun (by have := xev_den (n := n) (e := e1) (x := x); rw [g1] at this; exact this.symm) (by have := xev_den (n := n) (e := e1) (x := y); rw [g2] at this; exact this.symm) g3 g4 (by show s6 < (toL n e1).length; rw [toL_len]; exact hsn) ?_
  intro ρ a w w' p hr hb
  obtain ⟨y, hy, hR2, hv⟩ := shpS_rel ds ss r hr hb hss g5 g6
  obtain ⟨e', he', hk2⟩ := putK_ok (forceE_ok (k := fun e2 => putK n e2 (some s6) .any fun e3 => K .normal e3 (keepH ds y 0 h1) (anyM gs1)) (keepK_ok (g7 y hy)))
  refine ⟨_, ρ, hq _ _ _ _ hk2, ?_, anyM_dn hr.ghost, hR2, by rw [put_defers]; exact hr.defers⟩
  show DnL _ (toL n e') _
  rw [he']
  exact put_dn (dst := some s6) hv (by simp [XV.den, Dn])⟩
end
end Go.Proofs.Ytmhmldpccccjbaa
