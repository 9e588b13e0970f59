/- What is told may be taken together, in one step, and opened again. No condition. -/
import Derived.Test.YtmhmldpccccjbaaU9
import Derived.Test.YtmhmldpccccjbaaU8
import Derived.Test.YtmhmldpccccjbaaU12
namespace Go.Proofs.Ytmhmldpccccjbaa
open Go.RowKit
set_option linter.unusedVariables false
set_option linter.unusedSimpArgs false

/-- Numbers are written over numbers behind a mark, in blocks of which may be spoken alone. -/
structure ShpS (S : Nat → Prop) (M : Nat) (w w' : World) : Prop where
  s : Shp M w w'
  k : ∀ k, k < w.heap.size → ¬ S k → w'.heap[k]? = w.heap[k]?
theorem ShpS.refl (S : Nat → Prop) (M : Nat) (w : World) : ShpS S M w w := ⟨.refl _ _, fun _ _ _ => rfl⟩
theorem ShpS.grow {S : Nat → Prop} {M : Nat} {w w' w2 : World} (h : ShpS S M w w') (hM : M ≤ w'.heap.size) (hb : Below w'.heap.size w' w2) : ShpS S M w w2 where
  s := h.s.grow hM hb
  k k hk hs := (hb.block k (Nat.lt_of_lt_of_le hk h.s.below.size)).trans (h.k k hk hs)
theorem ShpS.set {S : Nat → Prop} {M : Nat} {w w' : World} (h : ShpS S M w w') {q : Addr} (hq : M ≤ q.block) (hS : S q.block) {k : IntKind} (hc : ICell w' q k) (y : Int) : ShpS S M w (w'.setCell q (.int k y)) where
  s := h.s.set hq hc y
  k j hj hs := (Below.heap_setCell _ _ _ j (fun e => hs (e ▸ hS))).trans (h.k j hj hs)
/-- A function that writes numbers over numbers in what was made behind a mark, and in no local block. -/
def SpL (P : Program) (f : FuncId) (ts : List TV) : Prop := entB P f = true ∧ ∀ (C : Cx) (vals : List Value), C.B ≤ C.w.heap.size → DnL C ts vals → Calls P f vals.toArray C.w fun e w' => e = .returned (.tuple #[]) ∧ ShpS C.S C.B C.w w'
theorem SpL.sp {P : Program} {f : FuncId} {ts : List TV} (h : SpL P f ts) : SpM P f ts := ⟨h.1, fun C vals hB hd => (h.2 C vals hB hd).mono fun e w' hh => ⟨hh.1, ⟨hh.2.s.below, hh.2.s.oth⟩⟩⟩
/-- What is told of some. -/
def dsL {α : Type} : List (Nat × α) → Nat → Option α
  | [], _ => none
  | (i, v) :: r, j => match Nat.beq i j with
    | true => some v
    | false => dsL r j
def isCells : XLB → Bool
  | .cells _ _ => true
  | _ => false
theorem dsL_all {α : Type} {q : Nat → Bool} : ∀ {ds : List (Nat × α)} {i : Nat} {v : α}, (ds.all fun p => q p.1) = true → dsL ds i = some v → q i = true
  | [], i, v, _, h => by cases h
  | (j, w) :: r, i, v, ha, h => by
    simp only [List.all_cons, Bool.and_eq_true] at ha
    simp only [dsL] at h
    cases hb : Nat.beq j i with
    | true => rw [← Nat.eq_of_beq_eq_true hb]; exact ha.1
    | false => rw [hb] at h; exact dsL_all ha.2 h
def keepB {Y : Type} (ds : List (Nat × (Y → List XV))) (y : Y) (i : Nat) : XLB → XLB
  | .cells t _ => match dsL ds i with
    | some V => .cells t (V y)
    | none => .none
  | _ => .none
def keepK {Y : Type} (ds : List (Nat × (Y → List XV))) (y : Y) : Nat → List XLB → (List XLB → Prop) → Prop
  | _, [], k => k []
  | i, b :: r, k => keepK ds y (i + 1) r fun r' => match b with
    | .cells t _ => match dsL ds i with
      | some V => k (.cells t (V y) :: r')
      | none => k (.none :: r')
    | _ => k (.none :: r')
def keepH {Y : Type} (ds : List (Nat × (Y → List XV))) (y : Y) : Nat → List XLB → List XLB
  | _, [] => []
  | i, b :: r => keepB ds y i b :: keepH ds y (i + 1) r
theorem keepH_nx {Y : Type} (ds : List (Nat × (Y → List XV))) (y : Y) : ∀ (i : Nat) (h : List XLB) (j : Nat), (Go.Proofs.Ytmhmldpccccjbaa.hf ((keepH ds y i h).map XLB.den) j).nx
  | _, [], j => by simp [keepH, Go.Proofs.Ytmhmldpccccjbaa.hf, LB.nx]
  | i, b :: r, 0 => by
    show (keepB ds y i b).den.nx
    cases b <;> try trivial
    unfold keepB
    simp only
    split <;> trivial
  | i, b :: r, j + 1 => by
    have := keepH_nx ds y (i + 1) r j
    simpa [keepH, Go.Proofs.Ytmhmldpccccjbaa.hf] using this
theorem keepK_ok {Y : Type} {ds : List (Nat × (Y → List XV))} {y : Y} : ∀ {i : Nat} {h : List XLB} {k : List XLB → Prop}, keepK ds y i h k → k (keepH ds y i h)
  | _, [], _, hh => hh
  | i, b :: r, k, hh => by
    have := keepK_ok (i := i + 1) (h := r) hh
    simp only [keepH]
    cases b with
    | cells t cs =>
      simp only [keepB]
      simp only at this
      cases hd : dsL ds i with
      | none => rw [hd] at this; exact this
      | some V => rw [hd] at this; exact this
    | none => exact this
    | ext _ => exact this
    | row _ _ _ _ => exact this
theorem keepH_get {Y : Type} {ds : List (Nat × (Y → List XV))} {y : Y} : ∀ {h : List XLB} {i j : Nat}, hget (keepH ds y i h) j = keepB ds y (i + j) (hget h j)
  | [], i, j => rfl
  | b :: r, i, 0 => rfl
  | b :: r, i, j + 1 => by
    show hget (keepH ds y (i + 1) r) j = keepB ds y (i + (j + 1)) (hget r j)
    rw [keepH_get, show i + 1 + j = i + (j + 1) by omega]
def ssE {Y : Type} (ss : List (Nat × (Y → XV))) (y : Y) : Env := match ss with
  | [] => []
  | (d, v) :: r => (d, v y) :: ssE r y
theorem ssE_look {Y : Type} {y : Y} {e : Env} : ∀ {ss : List (Nat × (Y → XV))} {d : Nat}, (∃ p ∈ ss, p.1 = d ∧ look (ssE ss y ++ e) d = p.2 y) ∨ look (ssE ss y ++ e) d = look e d
  | [], d => .inr rfl
  | (d0, v) :: r, d => by
    simp only [ssE, List.cons_append, look]
    cases hb : Nat.beq d0 d with
    | true => exact .inl ⟨(d0, v), by simp, Nat.eq_of_beq_eq_true hb, rfl⟩
    | false =>
      rcases ssE_look (ss := r) (d := d) with ⟨p, h1, h2, h3⟩ | h1
      · exact .inl ⟨p, by simp [h1], h2, h3⟩
      · exact .inr h1
def dgX {Y : Type} (ds : List (Nat × (Y → List XV))) : XV → XV
  | .p (.v x) h => .p (.v x) h
  | .p .nil_ h => .p .nil_ h
  | .pin u t h => .pin u t h
  | .ptr i off => match dsL ds i with
    | some _ => .ptr i off
    | none => .any
  | _ => .any
theorem dg_dn {Y : Type} {ds : List (Nat × (Y → List XV))} {C C' : Cx} {v : XV} {u : Value} (hp : ∀ i, (dsL ds i).isSome = true → C.pres i → C'.pres i ∧ C'.ρ i = C.ρ i) (h : Dn C v.den u) : Dn C' (dgX ds v).den u := by
  cases v with
  | p t hn => cases t <;> simp only [dgX, XV.den, Dn] at h ⊢ <;> exact h
  | pin x t hn => simp only [dgX, XV.den, Dn] at h ⊢; exact h
  | ptr i off =>
    simp only [dgX]
    cases hd : dsL ds i with
    | none => simp [XV.den, Dn]
    | some V =>
      simp only [XV.den, Dn] at h ⊢
      obtain ⟨h1, g, h2, h3⟩ := h
      obtain ⟨h4, h5⟩ := hp i (by rw [hd]; rfl) h1
      exact ⟨h4, g, by rw [h5]; exact h2, h3⟩
  | _ => simp [dgX, XV.den, Dn]
theorem cxOf_here {B : Nat} {ρ : Nat → Value} {h h' : Nat → LB} {w : World} (hh : ∀ i, (h i).here ↔ (h' i).here) (h1 : ∀ i, (h i).nx) (h2 : ∀ i, (h' i).nx) : cxOf B ρ h w = cxOf B ρ h' w := by
  unfold cxOf
  have e1 : (fun i => (h i).here) = fun i => (h' i).here := funext fun i => propext (hh i)
  have e2 : (fun k => (∀ i, (h i).here → blkOf (ρ i) ≠ some k) ∧ ∀ i, ¬ (h i).ps (ρ i) k) = fun k => (∀ i, (h' i).here → blkOf (ρ i) ≠ some k) ∧ ∀ i, ¬ (h' i).ps (ρ i) k := funext fun k => propext ⟨fun H => ⟨fun i hi => H.1 i ((hh i).2 hi), fun i => LB.nx_ps (h2 i)⟩, fun H => ⟨fun i hi => H.1 i ((hh i).1 hi), fun i => LB.nx_ps (h1 i)⟩⟩
  have e3 : ∀ {g : Nat → LB} (hg : ∀ i, (g i).nx) (i k : Nat), ¬ (g i).zs (ρ i) k := fun hg i k hz => by
    obtain ⟨x, e, h1, _⟩ := LB.zs_of hz
    have := hg i
    rw [e] at this
    exact this
  rw [e1, e2]
  congr 1
  exact funext fun i => funext fun k => propext ⟨fun H => absurd H.2.1 (e3 h1 i k), fun H => absurd H.2.1 (e3 h2 i k)⟩
section
variable {P : Program} {B : Nat} {w0 : World} {n : Nat} {e : Env} {h : List XLB} {gs : Frames}
end
end Go.Proofs.Ytmhmldpccccjbaa

namespace Go.Proofs.Ytmhmldpccccjbaa
open Go.RowKit
set_option linter.unusedVariables false
set_option linter.unusedSimpArgs false

def tidyG : Frames → Frames
  | [] => []
  | (n, e) :: r => (n, dropE [] e) :: tidyG r
mutual
/-- Only local blocks below m are spoken of. -/
def lowB (m : Nat) : XV → Bool
  | .p _ _ => true
  | .any => true
  | .row j => Nat.blt j m
  | .ptr j _ => Nat.blt j m
  | .rp j _ _ _ => Nat.blt j m
  | .ag vs => lowBL m vs
  | .tu vs => lowBL m vs
  | .fu _ vs => lowBL m vs
  | .ow _ _ _ _ => true
  | .pin _ _ _ => true
  | .z j _ _ => Nat.blt j m
  | .win j _ _ => Nat.blt j m
def lowBL (m : Nat) : List XV → Bool
  | [] => true
  | v :: vs => match lowB m v with
    | true => lowBL m vs
    | false => false
end
mutual
theorem lowX_id {m : Nat} : ∀ v : XV, lowB m v = true → lowX m v = v
  | .p _ _, _ => rfl
  | .any, _ => rfl
  | .row j, h => by simp only [lowB] at h; simp only [lowX, h]
  | .ptr j _, h => by simp only [lowB] at h; simp only [lowX, h]
  | .rp j _ _ _, h => by simp only [lowB] at h; simp only [lowX, h]
  | .ag vs, h => by simp only [lowB] at h; simp only [lowX, lowXL_id vs h]
  | .tu vs, h => by simp only [lowB] at h; simp only [lowX, lowXL_id vs h]
  | .fu _ vs, h => by simp only [lowB] at h; simp only [lowX, lowXL_id vs h]
  | .ow _ _ _ _, _ => rfl
  | .pin _ _ _, _ => rfl
  | .z j _ _, h => by simp only [lowB] at h; simp only [lowX, h]
  | .win j _ _, h => by simp only [lowB] at h; simp only [lowX, h]
theorem lowXL_id {m : Nat} : ∀ vs : List XV, lowBL m vs = true → lowXL m vs = vs
  | [], _ => rfl
  | v :: vs, h => by
    simp only [lowBL] at h
    split at h
    · rename_i h1
      simp only [lowXL, lowX_id v h1, lowXL_id vs h]
    · cases h
end
def lowE (m : Nat) : List Nat → Env → Bool
  | _, [] => true
  | ds, x :: r => match memN x.1 ds with
    | true => false
    | false => match lowB m x.2 with
      | true => lowE m (x.1 :: ds) r
      | false => false
theorem memN_ne {d i : Nat} {ds : List Nat} (h : memN d ds = false) (hi : i ∈ ds) : i ≠ d := by
  induction ds with
  | nil => cases hi
  | cons x r ih =>
    simp only [memN] at h
    cases hb : Nat.beq x d with
    | true => rw [hb] at h; cases h
    | false =>
      rw [hb] at h
      rcases List.mem_cons.1 hi with rfl | hi
      · exact Nat.ne_of_beq_eq_false hb
      · exact ih h hi
theorem lowE_le {m : Nat} : ∀ {r pre : Env} {ds : List Nat}, (∀ x ∈ pre, x.1 ∈ ds) → lowE m ds r = true → LeEnv m (pre ++ r) r
  | [], _, _, _, _ => True.intro
  | x :: r, pre, ds, hp, h => by
    simp only [lowE] at h
    split at h
    · cases h
    · rename_i h1
      split at h
      · rename_i h2
        have e1 : look (pre ++ x :: r) x.1 = x.2 := by
          have h3 : ∀ y ∈ pre, y.1 ≠ x.1 := fun y hy => memN_ne h1 (hp y hy)
          clear hp
          induction pre with
          | nil => exact look_same r x.1 x.2
          | cons y p ih =>
            have := look_ne (p ++ x :: r) y.2 (h3 y (List.mem_cons_self ..))
            exact this.trans (ih fun z hz => h3 z (List.mem_cons_of_mem _ hz))
        refine ⟨by rw [e1, lowX_id _ h2]; exact .rfl, ?_⟩
        have := lowE_le (m := m) (r := r) (pre := pre ++ [x]) (ds := x.1 :: ds) (fun y hy => by
          rcases List.mem_append.1 hy with hy | hy
          · exact List.mem_cons_of_mem _ (hp y hy)
          · rw [List.mem_singleton.1 hy]; exact List.mem_cons_self ..) h
        rwa [List.append_assoc] at this
      · cases h
def lowG (m : Nat) : Frames → Bool
  | [] => true
  | f :: r => match lowE m [] f.2 with
    | true => lowG m r
    | false => false
/-- Frames whose slots are told once, and that speak of local blocks below m alone. -/
theorem LeFr.same {m : Nat} : ∀ {gs : Frames}, lowG m gs = true → LeFr m gs gs
  | [], _ => rfl
  | f :: r, h => by
    simp only [lowG] at h
    split at h
    · rename_i h1
      exact ⟨f, r, rfl, rfl, lowE_le (pre := []) (fun _ hx => by cases hx) h1, LeFr.same h⟩
    · cases h
section
variable {P : Program} {B : Nat} {w0 : World} {T : Tab} {n : Nat} {e : Env} {h : List XLB} {gs : Frames} {K : XQ} {c : Code}
/-- Steps told one by one: what the kernel then compares stays small. -/
theorem X.skip {T : Tab} (hx : K .normal e h gs) : X P B w0 T n .skip e h gs K := hx
end
end Go.Proofs.Ytmhmldpccccjbaa

namespace Go.Proofs.Ytmhmldpccccjbaa
open Go.RowKit
set_option linter.unusedVariables false
set_option linter.unusedSimpArgs false

section
variable {P : Program} {B : Nat} {w0 : World} {n : Nat} {e : Env} {h : List XLB} {gs : Frames}
/-- What local blocks and slots are behind numbers that were written over numbers. -/
theorem shpS_rel {gh : List Value} {ρ : Nat → Value} {a : Act} {w w' : World} {Y : Type} (ds : List (Nat × (Y → List XV))) (ss : List (Nat × (Y → XV))) (r : Y → Prop) (hr : RelS B w0 gh ρ (xst n e h gs) a w) (hb : ShpS (cxOf B ρ (Go.Proofs.Ytmhmldpccccjbaa.hf (h.map XLB.den)) w).S B w w') (hss : (ss.all fun p => Nat.blt p.1 n) = true) (hcs : (ds.all fun p => isCells (hget h p.1)) = true)
    (hbl : ∀ (C C' : Cx), ShpS C.S C.B C.w C'.w → C'.B = C.B → (∀ k, C.S k → C'.S k) → ∀ (us : Nat → List Value) (xs : Nat → Value), (∀ i t cs, hget h i = .cells t cs → DnL C (XV.denL cs) (us i)) → (∀ p ∈ ss, Dn C (look e p.1).den (xs p.1)) → ∃ y, r y ∧ (∀ i V t cs, dsL ds i = some V → hget h i = .cells t cs → DnL C' (XV.denL (V y)) (us i)) ∧ ∀ p ∈ ss, Dn C' (p.2 y).den (xs p.1)) :
    ∃ y, r y ∧ Rel B w0 ρ (Go.Proofs.Ytmhmldpccccjbaa.hf ((keepH ds y 0 h).map XLB.den)) w' ∧ DnL (cxOf B ρ (Go.Proofs.Ytmhmldpccccjbaa.hf ((keepH ds y 0 h).map XLB.den)) w') (toL n (ssE ss y ++ mapE (dgX ds) e)) a.tmps.toList := by
  have R := hr.rel
  have hblk : ∀ i, ∃ us : List Value, ∀ t cs, hget h i = .cells t cs → (∃ g, ρ i = .pointer (some ⟨g, 0, none⟩) ∧ Blk w g t us.toArray ∧ B ≤ g) ∧ DnL (cxOf B ρ (Go.Proofs.Ytmhmldpccccjbaa.hf (h.map XLB.den)) w) (XV.denL cs) us := fun i => by
    cases hi : hget h i with
    | cells t cs =>
      have h2 : Go.Proofs.Ytmhmldpccccjbaa.hf (h.map XLB.den) i = .cells t (XV.denL cs) := by rw [← hget_den, hi]; rfl
      obtain ⟨g, us, q1, q2, q3, q4⟩ := R.blk i _ _ h2
      exact ⟨us, fun t' cs' e => by injection e with e1 e2; subst e1 e2; exact ⟨⟨g, q1, q2, q3⟩, q4⟩⟩
    | _ => exact ⟨[], fun t cs e => by cases e⟩
  obtain ⟨us, hus⟩ := Classical.axiomOfChoice hblk
  obtain ⟨xs, hxs⟩ : ∃ xs : Nat → Value, ∀ d (u : Value), a.tmps.toList[d]? = some u → xs d = u := ⟨fun d => (a.tmps.toList[d]?).getD .nilFunc, fun d u hu => by simp [hu]⟩
  have hssn : ∀ p ∈ ss, p.1 < n := fun p hp => Nat.blt_eq.mp (List.all_eq_true.1 hss p hp)
  obtain ⟨hx, hxn, hhx⟩ : ∃ hx : Nat → LB, (∀ i, (hx i).nx) ∧ ∀ i, (hx i).here ↔ ∃ V t cs, dsL ds i = some V ∧ hget h i = .cells t cs := by
    classical
    refine ⟨fun i => if ∃ V t cs, dsL ds i = some V ∧ hget h i = .cells t cs then .cells 0 [] else .none, fun i => ?_, fun i => ?_⟩
    · show LB.nx (if _ then _ else _)
      split <;> trivial
    by_cases hc : ∃ V t cs, dsL ds i = some V ∧ hget h i = .cells t cs
    · simp only [if_pos hc]; exact ⟨fun _ => hc, fun _ => trivial⟩
    · simp only [if_neg hc]; exact ⟨fun hh => hh.elim, fun hh => absurd hh hc⟩
  have hin : ∀ i, (hx i).here → (Go.Proofs.Ytmhmldpccccjbaa.hf (h.map XLB.den) i).here := fun i hi => by
    obtain ⟨V, t, cs, _, h2⟩ := (hhx i).1 hi
    rw [← hget_den, h2]
    trivial
  obtain ⟨y, hy, hy1, hy2⟩ := hbl (cxOf B ρ (Go.Proofs.Ytmhmldpccccjbaa.hf (h.map XLB.den)) w) (cxOf B ρ hx w') hb rfl (fun k hk => ⟨fun i hi => hk.1 i (hin i hi), fun i => LB.nx_ps (hxn i)⟩) us xs (fun i t cs hi => (hus i t cs hi).2) (fun p hp => by
    obtain ⟨u, hu, hu2⟩ := hr.slots.at_ p.1 _ (toL_get? e (hssn p hp))
    rw [hxs _ _ hu]; exact hu2)
  have hden : ∀ i, Go.Proofs.Ytmhmldpccccjbaa.hf ((keepH ds y 0 h).map XLB.den) i = (keepB ds y i (hget h i)).den := fun i => by rw [← hget_den, keepH_get, Nat.zero_add]
  have hiff : ∀ i, (Go.Proofs.Ytmhmldpccccjbaa.hf ((keepH ds y 0 h).map XLB.den) i).here ↔ (hx i).here := fun i => by
    rw [hden, hhx]
    cases h2 : hget h i with
    | cells t cs =>
      cases h1 : dsL ds i with
      | none => simp [keepB, h1, XLB.den, LB.here]
      | some V => simp [keepB, h1, XLB.den, LB.here]
    | none => simp [keepB, XLB.den, LB.here]
    | row _ _ _ _ => simp [keepB, XLB.den, LB.here]
    | ext _ => simp [keepB, XLB.den, LB.here]
  have hC : cxOf B ρ (Go.Proofs.Ytmhmldpccccjbaa.hf ((keepH ds y 0 h).map XLB.den)) w' = cxOf B ρ hx w' := cxOf_here hiff (keepH_nx _ _ _ _) hxn
  have hcell : ∀ i t cs, Go.Proofs.Ytmhmldpccccjbaa.hf ((keepH ds y 0 h).map XLB.den) i = .cells t cs → ∃ V cs0, dsL ds i = some V ∧ hget h i = .cells t cs0 ∧ cs = XV.denL (V y) := fun i t cs hi => by
    rw [hden] at hi
    cases h2 : hget h i with
    | cells t2 cs2 =>
      rw [h2] at hi
      cases h1 : dsL ds i with
      | none => simp only [keepB, h1, XLB.den] at hi; cases hi
      | some V =>
        simp only [keepB, h1, XLB.den] at hi
        injection hi with hi1 hi2
        subst hi1 hi2
        exact ⟨V, cs2, rfl, rfl, rfl⟩
    | none => rw [h2] at hi; simp only [keepB, XLB.den] at hi; cases hi
    | row _ _ _ _ => rw [h2] at hi; simp only [keepB, XLB.den] at hi; cases hi
    | ext _ => rw [h2] at hi; simp only [keepB, XLB.den] at hi; cases hi
  have hrow : ∀ i e0 sz els, Go.Proofs.Ytmhmldpccccjbaa.hf ((keepH ds y 0 h).map XLB.den) i ≠ .row e0 sz els := fun i e0 sz els hi => by
    rw [hden] at hi
    cases h2 : hget h i with
    | cells t2 cs2 =>
      rw [h2] at hi
      cases h1 : dsL ds i <;> simp only [keepB, h1, XLB.den] at hi <;> cases hi
    | none => rw [h2] at hi; simp only [keepB, XLB.den] at hi; cases hi
    | row _ _ _ _ => rw [h2] at hi; simp only [keepB, XLB.den] at hi; cases hi
    | ext _ => rw [h2] at hi; simp only [keepB, XLB.den] at hi; cases hi
  refine ⟨y, hy, {
    below := R.below.trans hb.s.below
    oth := R.oth.trans hb.s.oth
    ext := fun i x e => by have := keepH_nx ds y 0 h i; rw [e] at this; exact this.elim
    gl0 := R.gl0
    size := Nat.le_trans R.size hb.s.below.size
    blk := fun i t cs hi => by
      obtain ⟨V, cs0, h1, h2, rfl⟩ := hcell i t cs hi
      obtain ⟨⟨g, q1, q2, q3⟩, _⟩ := hus i t cs0 h2
      refine ⟨g, us i, q1, ?_, q3, by rw [hC]; exact hy1 i V t cs0 h1 h2⟩
      have hh : (Go.Proofs.Ytmhmldpccccjbaa.hf (h.map XLB.den) i).here := by rw [← hget_den, h2]; trivial
      have hlt : g < w.heap.size := q2.lt
      show w'.heap[g]? = _
      rw [hb.k g hlt fun hS => hS.1 i hh (by rw [q1]; rfl)]
      exact q2
    row := fun i e0 sz els hi => absurd hi (hrow i e0 sz els)
    sep := fun i j g hi hj h1 h2 => R.sep i j g (hin i ((hiff i).1 hi)) (hin j ((hiff j).1 hj)) h1 h2
    inj := fun i g hi h1 => Nat.lt_of_lt_of_le (R.inj i g (hin i ((hiff i).1 hi)) h1) hb.s.below.size }, ?_⟩
  rw [hC]
  refine DnL.of_at (by rw [hr.slots.len]; exact (toL_len n _).trans (toL_len n e).symm) fun i t u ht hu => ?_
  obtain ⟨hi, rfl⟩ := toL_at ht
  obtain ⟨u', h3, h4⟩ := hr.slots.at_ i _ (toL_get? e hi)
  rw [hu] at h3
  injection h3 with h3
  subst h3
  rcases ssE_look (ss := ss) (y := y) (e := mapE (dgX ds) e) (d := i) with ⟨p, h5, h6, h7⟩ | h5
  · rw [h7]
    have := hy2 p h5
    rwa [h6, hxs i u hu] at this
  · rw [h5, look_map (f := dgX ds) rfl]
    refine dg_dn (C := cxOf B ρ (Go.Proofs.Ytmhmldpccccjbaa.hf (h.map XLB.den)) w) (fun j hj hpj => ⟨?_, rfl⟩) h4
    show (hx j).here
    rw [hhx]
    cases hd : dsL ds j with
    | none => rw [hd] at hj; cases hj
    | some V =>
      cases h8 : hget h j with
      | cells t cs => exact ⟨V, t, cs, rfl, rfl⟩
      | none => exact absurd hpj (by show ¬ (Go.Proofs.Ytmhmldpccccjbaa.hf (h.map XLB.den) j).here; rw [← hget_den, h8]; simp [XLB.den, LB.here])
      | ext _ => exact absurd (dsL_all (q := fun j => isCells (hget h j)) hcs hd) (by simp [h8, isCells])
      | row e1 sz els hp => exact absurd (dsL_all (q := fun j => isCells (hget h j)) hcs hd) (by simp [h8, isCells])
end
section
variable {P : Program} {B : Nat} {w0 : World} {gh : List Value} {ops : Array Oper}
end
section
variable {P : Program} {B : Nat} {w0 : World} {T : Tab} {n : Nat} {e : Env} {h : List XLB} {gs : Frames} {K : XQ} {c : Code}
def lowsB (m : Nat) : Env → Bool
  | [] => true
  | x :: r => match lowB m x.2 with
    | true => lowsB m r
    | false => false
theorem memN_iff {d : Nat} : ∀ {ds : List Nat}, memN d ds = true ↔ d ∈ ds
  | [] => by simp [memN]
  | x :: r => by
    simp only [memN, List.mem_cons]
    cases hb : Nat.beq x d with
    | true => simp [(Nat.eq_of_beq_eq_true hb).symm]
    | false =>
      have hne : ¬ d = x := fun e => by subst e; simp at hb
      simp [hne, memN_iff (ds := r)]
theorem dropE_at : ∀ {e : Env} {ds : List Nat} {x : Nat × XV}, x ∈ dropE ds e → look e x.1 = x.2 ∧ x.1 ∉ ds
  | [], ds, x, h => by simp [dropE] at h
  | y :: r, ds, x, h => by
    simp only [dropE] at h
    cases hm : memN y.1 ds with
    | true =>
      rw [hm] at h
      obtain ⟨h1, h2⟩ := dropE_at h
      have hne : y.1 ≠ x.1 := fun e => h2 (e ▸ memN_iff.1 hm)
      exact ⟨(look_ne r y.2 hne).trans h1, h2⟩
    | false =>
      rw [hm] at h
      rcases List.mem_cons.1 h with rfl | h
      · exact ⟨look_same r x.1 x.2, fun hx => by rw [memN_iff.2 hx] at hm; cases hm⟩
      · obtain ⟨h1, h2⟩ := dropE_at h
        have hne : y.1 ≠ x.1 := fun e => h2 (e ▸ List.mem_cons_self)
        exact ⟨(look_ne r y.2 hne).trans h1, fun hx => h2 (List.mem_cons_of_mem _ hx)⟩
theorem leEnv_of {m : Nat} {e : Env} : ∀ {e' : Env}, (∀ x ∈ e', LeV (lowX m (look e x.1)) x.2) → LeEnv m e e'
  | [], _ => trivial
  | x :: r, h => ⟨h x (by simp), leEnv_of fun y hy => h y (by simp [hy])⟩
theorem lowsB_mem {m : Nat} : ∀ {e : Env}, lowsB m e = true → ∀ x ∈ e, lowB m x.2 = true
  | [], _, x, hx => by simp at hx
  | y :: r, h, x, hx => by
    simp only [lowsB] at h
    split at h
    · rename_i hy
      rcases List.mem_cons.1 hx with rfl | hx
      · exact hy
      · exact lowsB_mem h x hx
    · cases h
theorem leEnv_mem {m : Nat} {e : Env} : ∀ {e' : Env}, LeEnv m e e' → ∀ x ∈ e', LeV (lowX m (look e x.1)) x.2
  | [], _, x, hx => by simp at hx
  | y :: r, h, x, hx => by
    rcases List.mem_cons.1 hx with rfl | hx
    · exact h.1
    · exact leEnv_mem h.2 x hx
/-- The slots that were not written, in one step. -/
theorem leEnv_app {m : Nat} {e1 us e : Env} {ds : List Nat} (h2 : dropE ds e1 = dropE ds e) (h3 : lowsB m (dropE ds e) = true) (h1 : LeEnv m e1 us) : LeEnv m e1 (us ++ dropE ds e) := leEnv_of fun x hx => by
  rcases List.mem_append.1 hx with hx | hx
  · exact leEnv_mem h1 x hx
  · have h4 := lowX_id x.2 (lowsB_mem h3 x hx)
    rw [← h2] at hx
    rw [(dropE_at hx).1, h4]
    exact .rfl
/-- What a state says at least, when some rows are written no more. -/
def LeFz (e' : Env) (h' : List XLB) (gs' : Frames) : List Nat → Env → List XLB → Frames → Prop
  | [], e, h, gs => LeX e h gs e' h' gs'
  | j :: js, e, h, gs => frzK e h gs j fun e1 h1 gs1 => LeFz e' h' gs' js e1 h1 gs1
theorem LeFz.sle {e' : Env} {h' : List XLB} {gs' : Frames} (gh : List Value) : ∀ {js : List Nat} {e : Env} {h : List XLB} {gs : Frames}, LeFz e' h' gs' js e h gs → SLe B w0 gh (xst n e h gs) (xst n e' h' gs')
  | [], e, h, gs, hh => LeX.sle hh gh
  | j :: js, e, h, gs, hh => by
    obtain ⟨e1, h1, g1, h2, h3⟩ := frzK_ok (n := n) (B := B) (w0 := w0) hh
    exact (h2 gh).trans (LeFz.sle gh h3)
/-- Ways that meet: what is behind them is walked once. -/
theorem XT.cut (O : TabOk P T) {Y : Type} (ds : List Nat) (us : Y → Env) (hs : Y → List (Nat × XLB)) (r : Y → Prop)
    (ha : X P B w0 T n c e h gs fun ex e1 h1 g1 => match ex with
      | .normal => ∃ y, r y ∧ ∃ js, LeFz (us y ++ dropE ds e) (setsH h (hs y)) gs js e1 h1 g1
      | ex => K ex e1 h1 g1)
    (hb : ∀ y, r y → forceE (us y ++ dropE ds e) fun e' => forceH (setsH h (hs y)) fun h' => K .normal e' h' gs) : XT P B w0 n c e h gs K := ⟨fun gh Q hq ρ a w hr => by
  refine wp_mono ((X_ok O ha).ok gh (fun ex σ => match ex with
    | .normal => ∃ σ', SLe B w0 gh σ σ' ∧ Q .normal σ'
    | ex => Q ex σ) (fun ex e1 h1 gs1 hk => ?_) ρ a w hr) fun ex a w ⟨σ, ρ, h1, h2⟩ => ?_
  · cases ex with
    | normal =>
      obtain ⟨y, hy, js, hl⟩ := hk
      have := forceH_ok (k := fun h' => K .normal _ h' gs) (forceE_ok (k := fun e' => forceH (setsH h (hs y)) fun h' => K .normal e' h' gs) (hb y hy))
      exact ⟨_, hl.sle gh, hq _ _ _ _ this⟩
    | _ => exact hq _ _ _ _ hk
  · cases ex with
    | normal =>
      obtain ⟨σ', h3, h4⟩ := h1
      obtain ⟨ρ', h5⟩ := h3 ρ a w h2
      exact ⟨σ', ρ', h4, h5⟩
    | _ => exact ⟨σ, ρ, h1, h2⟩⟩
/-- Some local blocks and slots are known by their shape, plain slots as they are, nothing else is known any more. -/
theorem XT.keep {Y : Type} (ds : List (Nat × (Y → List XV))) (ss : List (Nat × (Y → XV))) (r : Y → Prop) (hss : (ss.all fun p => Nat.blt p.1 n) = true) (hcs : (ds.all fun p => isCells (hget h p.1)) = true)
    (hbl : ∀ (C C' : Cx), ShpS C.S C.B C.w C'.w → C'.B = C.B → (∀ k, C.S k → C'.S k) → ∀ (us : Nat → List Value) (xs : Nat → Value), (∀ i t cs, hget h i = .cells t cs → DnL C (XV.denL cs) (us i)) → (∀ p ∈ ss, Dn C (look e p.1).den (xs p.1)) → ∃ y, r y ∧ (∀ i V t cs, dsL ds i = some V → hget h i = .cells t cs → DnL C' (XV.denL (V y)) (us i)) ∧ ∀ p ∈ ss, Dn C' (p.2 y).den (xs p.1))
    (hx : ∀ y, r y → keepK ds y 0 h fun h2 => forceE (ssE ss y ++ mapE (dgX ds) e) fun e2 => XT P B w0 n c e2 h2 (anyG gs) K) : XT P B w0 n c e h gs K := ⟨fun gh Q hq ρ a w hr => by
  obtain ⟨y, hy, hR2, hv⟩ := shpS_rel ds ss r hr (ShpS.refl _ _ _) hss hcs hbl
  refine (forceE_ok (k := fun e2 => XT P B w0 n c e2 (keepH ds y 0 h) (anyG gs) K) (keepK_ok (hx y hy))).ok gh Q hq ρ a w ⟨?_, anyG_dn hr.ghost, hR2, hr.defers⟩
  exact hv⟩
end
end Go.Proofs.Ytmhmldpccccjbaa

namespace Go.Proofs.Ytmhmldpccccjbaa
open Go.RowKit
set_option linter.unusedVariables false
set_option linter.unusedSimpArgs false

def wP : (t : TV) → Nl t → XV
  | .v x, h => .p (.v x) h
  | .nil_, h => .p .nil_ h
  | .any, _ | .agg _, _ | .tup _, _ | .fn _ _, _ | .ptr _ _, _ | .row _, _ | .sl _ _, _ | .eptr _, _ | .osl _ _ _, _ | .z _ _, _ | .win _ _ _, _ => .any
mutual
/-- What is still told where memory that is no local block's was written over. -/
def wX : XV → XV
  | .p t h => wP t h
  | .pin u t h => .pin u t h
  | .row i => .row i
  | .ptr i off => .ptr i off
  | .rp i k sz j => .rp i k sz j
  | .z i t h => .z i t h
  | .win i k sz => .win i k sz
  | .ag vs => .ag (wXL vs)
  | .tu vs => .tu (wXL vs)
  | .fu f vs => .fu f (wXL vs)
  | .any => .any
  | .ow _ _ _ _ => .any
def wXL : List XV → List XV
  | [] => []
  | v :: vs => wX v :: wXL vs
end
mutual
theorem wX_dn {C C' : Cx} (hl : ∀ i, C.pres i → C'.pres i ∧ C'.ρ i = C.ρ i) (hz : ∀ i t u, C.pres i → DnZ C.w (C.Z i) C.B t u → DnZ C'.w (C'.Z i) C'.B t u) : ∀ (v : XV) (u : Value), Dn C v.den u → Dn C' (wX v).den u
  | .p t hp, u, h => by cases t <;> simp only [wX, wP, XV.den, Dn] at h ⊢ <;> exact h
  | .pin x t hn, u, h => by simp only [wX, XV.den, Dn] at h ⊢; exact h
  | .row i, u, h => by
    simp only [wX, XV.den, Dn] at h ⊢
    exact ⟨(hl i h.1).1, by rw [(hl i h.1).2]; exact h.2⟩
  | .ptr i off, u, h => by
    simp only [wX, XV.den, Dn] at h ⊢
    obtain ⟨h1, g, h2, h3⟩ := h
    exact ⟨(hl i h1).1, g, by rw [(hl i h1).2]; exact h2, h3⟩
  | .rp i k sz j, u, h => by
    simp only [wX, XV.den, Dn] at h ⊢
    obtain ⟨h1, g, h2, h3⟩ := h
    exact ⟨(hl i h1).1, g, by rw [(hl i h1).2]; exact h2, h3⟩
  | .z i t hn, u, h => by
    simp only [wX, XV.den, Dn] at h ⊢
    exact ⟨(hl i h.1).1, hz i t u h.1 h.2⟩
  | .win i k sz, u, h => by
    simp only [wX, XV.den, Dn] at h ⊢
    obtain ⟨h1, g, n, c, h2, h3⟩ := h
    exact ⟨(hl i h1).1, g, n, c, by rw [(hl i h1).2]; exact h2, h3⟩
  | .ag vs, u, h => by
    simp only [wX, XV.den, Dn] at h ⊢
    obtain ⟨us, h1, h2⟩ := h
    exact ⟨us, h1, wXL_dn hl hz vs us h2⟩
  | .tu vs, u, h => by
    simp only [wX, XV.den, Dn] at h ⊢
    obtain ⟨us, h1, h2⟩ := h
    exact ⟨us, h1, wXL_dn hl hz vs us h2⟩
  | .fu f vs, u, h => by
    simp only [wX, XV.den, Dn] at h ⊢
    obtain ⟨us, h1, h2⟩ := h
    exact ⟨us, h1, wXL_dn hl hz vs us h2⟩
  | .any, u, _ => by simp [wX, XV.den, Dn]
  | .ow _ _ _ _, u, _ => by simp [wX, XV.den, Dn]
theorem wXL_dn {C C' : Cx} (hl : ∀ i, C.pres i → C'.pres i ∧ C'.ρ i = C.ρ i) (hz : ∀ i t u, C.pres i → DnZ C.w (C.Z i) C.B t u → DnZ C'.w (C'.Z i) C'.B t u) : ∀ (vs : List XV) (us : List Value), DnL C (XV.denL vs) us → DnL C' (XV.denL (wXL vs)) us
  | [], us, h => by simp only [wXL, XV.denL, DnL] at h ⊢; exact h
  | v :: vs, us, h => by
    simp only [wXL, XV.denL, DnL] at h ⊢
    obtain ⟨u, us', h1, h2, h3⟩ := h
    exact ⟨u, us', h1, wX_dn hl hz v u h2, wXL_dn hl hz vs us' h3⟩
end
def anys : List (List TV) → List (List TV) := List.map fun c => List.replicate c.length .any
theorem nl_anys (els : List (List TV)) : NlLL (anys els) := .map fun c _ => .of_all fun t ht => by
  obtain ⟨_, rfl⟩ := List.mem_replicate.1 ht
  exact ⟨fun _ => rfl, fun _ _ => rfl⟩
/-- What local blocks still hold. -/
def wB : XLB → XLB
  | .none => .none
  | .cells t cs => .cells t (wXL cs)
  | .row e sz els _ => .row e sz (anys els) (nl_anys els)
  | .ext x => .ext x
def wBs {Y : Type} (ds : List (Nat × (Y → List XV))) (y : Y) (i : Nat) (b : XLB) : XLB := match b with
  | .cells t cs => match dsL ds i with
    | some V => .cells t (V y)
    | none => wB (.cells t cs)
  | b => wB b
def wHs {Y : Type} (ds : List (Nat × (Y → List XV))) (y : Y) : Nat → List XLB → List XLB
  | _, [] => []
  | i, b :: r => wBs ds y i b :: wHs ds y (i + 1) r
def wHK {Y : Type} (ds : List (Nat × (Y → List XV))) (y : Y) : Nat → List XLB → (List XLB → Prop) → Prop
  | _, [], k => k []
  | i, b :: r, k => wHK ds y (i + 1) r fun r' => forceB (wBs ds y i b) fun b' => k (b' :: r')
section
variable {P : Program} {B : Nat} {w0 : World} {n : Nat} {e : Env} {h : List XLB} {gs : Frames}
end
section
variable {P : Program} {B : Nat} {w0 : World} {T : Tab} {n : Nat} {e : Env} {h : List XLB} {gs : Frames} {K : XQ} {c : Code}
end
section
variable {P : Program} {B : Nat} {w0 : World} {n : Nat} {e : Env} {h : List XLB} {gs : Frames}
/-- The trees of values that lie in the blocks that the local block i takes. -/
def unzP : (t : TV) → Option TV
  | .v x => some (.v x)
  | .nil_ => some (.sl true [])
  | .any | .agg _ | .tup _ | .fn _ _ | .ptr _ _ | .row _ | .sl _ _ | .eptr _ | .osl _ _ _ | .z _ _ | .win _ _ _ => none
mutual
def unzX (i : Nat) : XV → Option TV
  | .p t _ => unzP t
  | .z j t _ => match Nat.beq j i with
    | true => some t
    | false => none
  | .ag vs => match unzXL i vs with
    | some ts => some (.agg ts)
    | none => none
  | .any | .row _ | .ptr _ _ | .rp _ _ _ _ | .tu _ | .fu _ _ | .ow _ _ _ _ | .pin _ _ _ | .win _ _ _ => none
def unzXL (i : Nat) : List XV → Option (List TV)
  | [] => some []
  | v :: vs => match unzX i v with
    | some t => match unzXL i vs with
      | some ts => some (t :: ts)
      | none => none
    | none => none
end
/-- The blocks that a local block takes, and they alone. -/
def zCx (C : Cx) (i : Nat) : Cx := ⟨C.w, C.Z i, C.B, fun _ => .nilFunc, fun _ => False, fun _ _ _ _ _ => False, fun _ _ => False⟩
mutual
theorem unz_dn {C : Cx} {i : Nat} : ∀ (v : XV) (t : TV) (u : Value), unzX i v = some t → Dn C v.den u → Dn (zCx C i) t u
  | .p t0 hp, t, u, e, h => by
    cases t0 <;> simp only [unzX, unzP, Option.some.injEq, reduceCtorEq] at e
    · subst e; simp only [XV.den, Dn] at h ⊢; exact h
    · subst e
      simp only [XV.den, Dn] at h ⊢
      exact ⟨none, 0, [], 0, h, Nat.le_refl _, by simp [maxLen], by simp, by simp, by simp [DnLL], fun ad ha => by cases ha⟩
  | .z j t0 hp, t, u, e, h => by
    simp only [unzX] at e
    split at e
    · rename_i hb
      injection e with e
      subst e
      obtain rfl := Nat.eq_of_beq_eq_true hb
      simp only [XV.den, Dn] at h
      exact DnZ.dn (C := zCx C j) (fun k hk _ => hk) (Nat.le_refl _) _ _ h.2
    · cases e
  | .ag vs, t, u, e, h => by
    simp only [unzX] at e
    split at e
    · rename_i ts hts
      injection e with e
      subst e
      simp only [XV.den, Dn] at h ⊢
      obtain ⟨us, h1, h2⟩ := h
      exact ⟨us, h1, unzL_dn vs ts us hts h2⟩
    · cases e
  | .any, t, u, e, _ | .row _, t, u, e, _ | .ptr _ _, t, u, e, _ | .rp _ _ _ _, t, u, e, _ | .tu _, t, u, e, _ | .fu _ _, t, u, e, _ | .ow _ _ _ _, t, u, e, _ | .pin _ _ _, t, u, e, _ | .win _ _ _, t, u, e, _ => by simp [unzX] at e
theorem unzL_dn {C : Cx} {i : Nat} : ∀ (vs : List XV) (ts : List TV) (us : List Value), unzXL i vs = some ts → DnL C (XV.denL vs) us → DnL (zCx C i) ts us
  | [], ts, us, e, h => by
    simp only [unzXL, Option.some.injEq] at e
    subst e
    simp only [XV.denL, DnL] at h ⊢
    exact h
  | v :: vs, ts, us, e, h => by
    simp only [unzXL] at e
    split at e
    · rename_i t ht
      split at e
      · rename_i ts' hts
        injection e with e
        subst e
        simp only [XV.denL, DnL] at h ⊢
        obtain ⟨u, us', h1, h2, h3⟩ := h
        exact ⟨u, us', h1, unz_dn v t u ht h2, unzL_dn vs ts' us' hts h3⟩
      · cases e
    · cases e
end
def isZone (b : XLB) : Prop := match b with
  | .ext x => x = zoneX
  | _ => False
end
end Go.Proofs.Ytmhmldpccccjbaa

namespace Go.Proofs.Ytmhmldpccccjbaa
open Go.RowKit
set_option linter.unusedVariables false
set_option linter.unusedSimpArgs false

/-- A value that lies all in memory made since. -/
def FrX (v : XV) : Prop := Pu v.den ∧ Fr v.den ∧ zOk v = true
def FrB (b : XLB) : Prop := match b with
  | .cells _ cs => PuL (XV.denL cs) ∧ FrL (XV.denL cs) ∧ zOkL cs = true
  | _ => False
def zsE (j : Nat) (e : Env) : List Nat → Env
  | [] => []
  | d :: r => (d, zX j (look e d)) :: zsE j e r
def zBs (j : Nat) (bs : List Nat) (i : Nat) (b : XLB) : XLB := match memN i bs with
  | true => match b with
    | .cells t cs => .cells t (zXL j cs)
    | b => wB b
  | false => wB b
def zHs (j : Nat) (bs : List Nat) : Nat → List XLB → List XLB
  | _, [] => [.ext zoneX]
  | i, b :: r => zBs j bs i b :: zHs j bs (i + 1) r
def zHK (j : Nat) (bs : List Nat) : Nat → List XLB → (List XLB → Prop) → Prop
  | _, [], k => k [.ext zoneX]
  | i, b :: r, k => zHK j bs (i + 1) r fun r' => forceB (zBs j bs i b) fun b' => k (b' :: r')
theorem DnL.frz {C : Cx} {S : Nat → Prop} {B : Nat} (hS : ∀ k, C.S k → C.B ≤ k → k < C.w.heap.size → S k) (hB : B ≤ C.B) (ts : List TV) (us : List Value) (hp : PuL ts) (hf : FrL ts) (h : DnL C ts us) : DnZL C.w S B ts us := by
  have h1 := DnL.fr (C := C) (C' := { C with S := fun k => C.S k ∧ C.B ≤ k }) rfl (Nat.le_refl _) (fun k h1 h2 _ => ⟨h1, h2⟩) ts us hf h
  exact DnL.toZ (C := { C with S := fun k => C.S k ∧ C.B ≤ k }) (fun k hk hl => hS k hk.1 hk.2 hl) hB ts us hp h1
section
variable {C C' : Cx} {j : Nat}
mutual
theorem zt_fr (hw : C'.w = C.w) (hn : C'.pres j) (hS : ∀ k, C.S k → C.B ≤ k → k < C.w.heap.size → C'.Z j k) (hB : C'.B ≤ C.B) : ∀ (t : TV) (u : Value), Pu t → Fr t → Dn C t u → Dn C' (zt j t) u
  | .any, _, _, _, _ => by simp [Dn, Go.Proofs.Ytmhmldpccccjbaa.zt]
  | .v x, u, _, _, h => by simp only [Dn, Go.Proofs.Ytmhmldpccccjbaa.zt] at h ⊢; exact h
  | .nil_, u, _, _, h => by simp only [Dn, Go.Proofs.Ytmhmldpccccjbaa.zt] at h ⊢; exact h
  | .agg ts, u, p, f, h => by
    simp only [Dn, Go.Proofs.Ytmhmldpccccjbaa.zt, Pu, Fr] at h p f ⊢
    obtain ⟨vs, h1, h2⟩ := h
    exact ⟨vs, h1, ztL_fr hw hn hS hB ts vs p f h2⟩
  | .tup ts, u, p, f, h => by
    simp only [Dn, Go.Proofs.Ytmhmldpccccjbaa.zt, Pu, Fr] at h p f ⊢
    obtain ⟨vs, h1, h2⟩ := h
    exact ⟨vs, h1, ztL_fr hw hn hS hB ts vs p f h2⟩
  | .fn g ts, u, p, f, h => by
    have h1 := DnL.frz (C := C) (S := C'.Z j) (B := C'.B) hS hB [.fn g ts] [u] (by simp only [PuL]; exact ⟨p, trivial⟩) (by simp only [FrL]; exact ⟨f, trivial⟩) (DnL.cons h DnL.nil)
    simp only [Go.Proofs.Ytmhmldpccccjbaa.zt]
    simp only [Dn, hw]
    simp only [DnZL] at h1
    obtain ⟨u', us', e, h2, _⟩ := h1
    injection e with e
    subst e
    exact ⟨hn, h2⟩
  | .sl b els, u, p, f, h => by
    have h1 := DnL.frz (C := C) (S := C'.Z j) (B := C'.B) hS hB [.sl b els] [u] (by simp only [PuL]; exact ⟨p, trivial⟩) (by simp only [FrL]; exact ⟨f, trivial⟩) (DnL.cons h DnL.nil)
    simp only [Go.Proofs.Ytmhmldpccccjbaa.zt]
    simp only [Dn, hw]
    simp only [DnZL] at h1
    obtain ⟨u', us', e, h2, _⟩ := h1
    injection e with e
    subst e
    exact ⟨hn, h2⟩
  | .eptr _, u, _, f, _ => by simp only [Fr] at f
  | .ptr i off, u, p, _, _ => by simp only [Pu] at p
  | .row i, u, p, _, _ => by simp only [Pu] at p
  | .osl e sz els, u, p, _, _ => by simp only [Pu] at p
  | .z _ _, u, p, _, _ => by simp only [Pu] at p
  | .win _ _ _, u, p, _, _ => by simp only [Pu] at p
theorem ztL_fr (hw : C'.w = C.w) (hn : C'.pres j) (hS : ∀ k, C.S k → C.B ≤ k → k < C.w.heap.size → C'.Z j k) (hB : C'.B ≤ C.B) : ∀ (ts : List TV) (us : List Value), PuL ts → FrL ts → DnL C ts us → DnL C' (ztL j ts) us
  | [], us, _, _, h => by simp only [DnL, ztL] at h ⊢; exact h
  | t :: ts, us, p, f, h => by
    simp only [DnL, ztL, PuL, FrL] at h p f ⊢
    obtain ⟨u, us', h1, h2, h3⟩ := h
    exact ⟨u, us', h1, zt_fr hw hn hS hB t u p.1 f.1 h2, ztL_fr hw hn hS hB ts us' p.2 f.2 h3⟩
end
end
section
variable {P : Program} {B : Nat} {w0 : World} {T : Tab} {n : Nat} {e : Env} {h : List XLB} {gs : Frames} {K : XQ} {c : Code}
mutual
/-- Blocks that were taken together are read as others are. -/
def uzX (i : Nat) : XV → XV
  | .z j t h => match Nat.beq j i with
    | true => .p t h
    | false => .z j t h
  | .row j => match Nat.beq j i with
    | true => .any
    | false => .row j
  | .ptr j off => match Nat.beq j i with
    | true => .any
    | false => .ptr j off
  | .rp j k sz o => match Nat.beq j i with
    | true => .any
    | false => .rp j k sz o
  | .win j k sz => match Nat.beq j i with
    | true => .any
    | false => .win j k sz
  | .ag vs => .ag (uzXL i vs)
  | .tu vs => .tu (uzXL i vs)
  | .fu f vs => .fu f (uzXL i vs)
  | .p t h => .p t h
  | .any => .any
  | .ow _ _ _ _ => .any
  | .pin u t h => .pin u t h
def uzXL (i : Nat) : List XV → List XV
  | [] => []
  | v :: vs => uzX i v :: uzXL i vs
end
theorem nl_less {C C' : Cx} (hw : C'.w = C.w) (hB : C'.B = C.B) (hS : ∀ k, C.S k → C'.S k) (how : ∀ u e sz n xs, C'.ow u e sz n xs) : Keeps (C.less fun _ => false) C' := ⟨fun k h1 h2 => ⟨by rw [hw]; rfl, hS k h1, by rw [hw]; exact h2⟩, Nat.le_of_eq hB, fun j hj => by simp [Cx.less] at hj, fun _ _ _ _ _ _ => how _ _ _ _ _, fun j k hj _ _ => by simp [Cx.less] at hj⟩
mutual
theorem uz_dn {C C' : Cx} {i : Nat} (hw : C'.w = C.w) (hB : C'.B = C.B) (hS : ∀ k, C.S k → C'.S k) (how : ∀ u e sz n xs, C'.ow u e sz n xs) (hZi : ∀ k, C.Z i k → C'.S k) (hl : ∀ j, j ≠ i → C.pres j → C'.pres j ∧ C'.ρ j = C.ρ j) (hZ : ∀ j k, j ≠ i → C.pres j → C.Z j k → C'.Z j k) : ∀ (v : XV) (u : Value), Dn C v.den u → Dn C' (uzX i v).den u
  | .p t hp, u, h => by
    have := Dn.kp (fun _ => false) t u (show Dn C t u from h)
    rw [hp.k] at this
    exact Dn.keep (nl_less hw hB hS how) _ _ this
  | .any, u, _ => by simp [uzX, XV.den, Dn]
  | .ow _ _ _ _, u, _ => by simp [uzX, XV.den, Dn]
  | .pin x t hn, u, h => by simp only [uzX, XV.den, Dn] at h ⊢; exact h
  | .ag vs, u, h => by
    simp only [uzX, XV.den, Dn] at h ⊢
    obtain ⟨us, h1, h2⟩ := h
    exact ⟨us, h1, uzL_dn hw hB hS how hZi hl hZ vs us h2⟩
  | .tu vs, u, h => by
    simp only [uzX, XV.den, Dn] at h ⊢
    obtain ⟨us, h1, h2⟩ := h
    exact ⟨us, h1, uzL_dn hw hB hS how hZi hl hZ vs us h2⟩
  | .fu f vs, u, h => by
    simp only [uzX, XV.den, Dn] at h ⊢
    obtain ⟨us, h1, h2⟩ := h
    exact ⟨us, h1, uzL_dn hw hB hS how hZi hl hZ vs us h2⟩
  | .z j t hp, u, h => by
    simp only [uzX]
    simp only [XV.den, Dn] at h
    cases hb : Nat.beq j i with
    | true =>
      obtain rfl := Nat.eq_of_beq_eq_true hb
      simp only [XV.den]
      have h2 := h.2
      rw [← hw] at h2
      exact DnZ.dn (C := C') (fun k hk _ => hZi k hk) (Nat.le_of_eq hB) _ _ h2
    | false =>
      have hij := Nat.ne_of_beq_eq_false hb
      simp only [XV.den, Dn]
      refine ⟨(hl j hij h.1).1, DnZ.keep (fun k hk hlt => ⟨fun _ _ _ e1 => by rw [hw]; exact e1, hZ j k hij h.1 hk, by rw [hw]; exact hlt⟩) (Nat.le_of_eq hB) t u h.2⟩
  | .row j, u, h => by
    simp only [uzX]
    cases hb : Nat.beq j i with
    | true => simp [XV.den, Dn]
    | false =>
      have hij := Nat.ne_of_beq_eq_false hb
      simp only [XV.den, Dn] at h ⊢
      exact ⟨(hl j hij h.1).1, by rw [(hl j hij h.1).2]; exact h.2⟩
  | .ptr j off, u, h => by
    simp only [uzX]
    cases hb : Nat.beq j i with
    | true => simp [XV.den, Dn]
    | false =>
      have hij := Nat.ne_of_beq_eq_false hb
      simp only [XV.den, Dn] at h ⊢
      obtain ⟨h1, g, h2, h3⟩ := h
      exact ⟨(hl j hij h1).1, g, by rw [(hl j hij h1).2]; exact h2, h3⟩
  | .rp j k sz o, u, h => by
    simp only [uzX]
    cases hb : Nat.beq j i with
    | true => simp [XV.den, Dn]
    | false =>
      have hij := Nat.ne_of_beq_eq_false hb
      simp only [XV.den, Dn] at h ⊢
      obtain ⟨h1, g, h2, h3⟩ := h
      exact ⟨(hl j hij h1).1, g, by rw [(hl j hij h1).2]; exact h2, h3⟩
  | .win j k sz, u, h => by
    simp only [uzX]
    cases hb : Nat.beq j i with
    | true => simp [XV.den, Dn]
    | false =>
      have hij := Nat.ne_of_beq_eq_false hb
      simp only [XV.den, Dn] at h ⊢
      obtain ⟨h1, g, n, c, h2, h3⟩ := h
      exact ⟨(hl j hij h1).1, g, n, c, by rw [(hl j hij h1).2]; exact h2, h3⟩
theorem uzL_dn {C C' : Cx} {i : Nat} (hw : C'.w = C.w) (hB : C'.B = C.B) (hS : ∀ k, C.S k → C'.S k) (how : ∀ u e sz n xs, C'.ow u e sz n xs) (hZi : ∀ k, C.Z i k → C'.S k) (hl : ∀ j, j ≠ i → C.pres j → C'.pres j ∧ C'.ρ j = C.ρ j) (hZ : ∀ j k, j ≠ i → C.pres j → C.Z j k → C'.Z j k) : ∀ (vs : List XV) (us : List Value), DnL C (XV.denL vs) us → DnL C' (XV.denL (uzXL i vs)) us
  | [], us, h => by simp only [uzXL, XV.denL, DnL] at h ⊢; exact h
  | v :: vs, us, h => by
    simp only [uzXL, XV.denL, DnL] at h ⊢
    obtain ⟨u, us', h1, h2, h3⟩ := h
    exact ⟨u, us', h1, uz_dn hw hB hS how hZi hl hZ v u h2, uzL_dn hw hB hS how hZi hl hZ vs us' h3⟩
end
section
variable {P : Program} {B : Nat} {w0 : World} {T : Tab} {n : Nat} {e : Env} {h : List XLB} {gs : Frames} {K : XQ} {c : Code}
end
end
section
variable {P : Program} {B : Nat} {w0 : World} {n : Nat} {c : Code} {e : Env} {h : List XLB} {gs : Frames} {K : XQ}
end
section
variable {P : Program} {B : Nat} {w0 : World} {n : Nat} {c : Code} {e : Env} {h : List XLB} {gs : Frames} {K : XQ}
end
end Go.Proofs.Ytmhmldpccccjbaa
