/- States without what was written over: slots are told once. No condition. -/
import Derived.Test.YtekpmlfcmnlmiaaDoorU9
import Derived.Test.YtekpmlfcmnlmiaaDoorU8
namespace Go.Proofs.YtekpmlfcmnlmiaaDoor
open Go.RowKit
set_option linter.unusedVariables false
set_option linter.unusedSimpArgs false

/-- Numbers are written over numbers behind a mark, in blocks of which may be spoken alone. -/
structure ShpS (S : Nat → Prop) (M : Nat) (w w' : World) : Prop where
  s : Shp M w w'
  k : ∀ k, k < w.heap.size → ¬ S k → w'.heap[k]? = w.heap[k]?
theorem ShpS.refl (S : Nat → Prop) (M : Nat) (w : World) : ShpS S M w w := ⟨.refl _ _, fun _ _ _ => rfl⟩
theorem ShpS.grow {S : Nat → Prop} {M : Nat} {w w' w2 : World} (h : ShpS S M w w') (hM : M ≤ w'.heap.size) (hb : Below w'.heap.size w' w2) : ShpS S M w w2 where
  s := h.s.grow hM hb
  k k hk hs := (hb.block k (Nat.lt_of_lt_of_le hk h.s.below.size)).trans (h.k k hk hs)
theorem ShpS.set {S : Nat → Prop} {M : Nat} {w w' : World} (h : ShpS S M w w') {q : Addr} (hq : M ≤ q.block) (hS : S q.block) {k : IntKind} (hc : ICell w' q k) (y : Int) : ShpS S M w (w'.setCell q (.int k y)) where
  s := h.s.set hq hc y
  k j hj hs := (Below.heap_setCell _ _ _ j (fun e => hs (e ▸ hS))).trans (h.k j hj hs)
/-- A function that writes numbers over numbers in what was made behind a mark, and in no local block. -/
def SpL (P : Program) (f : FuncId) (ts : List TV) : Prop := entB P f = true ∧ ∀ (C : Cx) (vals : List Value), C.B ≤ C.w.heap.size → DnL C ts vals → Calls P f vals.toArray C.w fun e w' => e = .returned (.tuple #[]) ∧ ShpS C.S C.B C.w w'
theorem SpL.sp {P : Program} {f : FuncId} {ts : List TV} (h : SpL P f ts) : SpM P f ts := ⟨h.1, fun C vals hB hd => (h.2 C vals hB hd).mono fun e w' hh => ⟨hh.1, ⟨hh.2.s.below, hh.2.s.oth⟩⟩⟩
/-- What is told of some. -/
def dsL {α : Type} : List (Nat × α) → Nat → Option α
  | [], _ => none
  | (i, v) :: r, j => match Nat.beq i j with
    | true => some v
    | false => dsL r j
def isCells : XLB → Bool
  | .cells _ _ => true
  | _ => false
theorem dsL_all {α : Type} {q : Nat → Bool} : ∀ {ds : List (Nat × α)} {i : Nat} {v : α}, (ds.all fun p => q p.1) = true → dsL ds i = some v → q i = true
  | [], i, v, _, h => by cases h
  | (j, w) :: r, i, v, ha, h => by
    simp only [List.all_cons, Bool.and_eq_true] at ha
    simp only [dsL] at h
    cases hb : Nat.beq j i with
    | true => rw [← Nat.eq_of_beq_eq_true hb]; exact ha.1
    | false => rw [hb] at h; exact dsL_all ha.2 h
def keepB {Y : Type} (ds : List (Nat × (Y → List XV))) (y : Y) (i : Nat) : XLB → XLB
  | .cells t _ => match dsL ds i with
    | some V => .cells t (V y)
    | none => .none
  | _ => .none
def keepK {Y : Type} (ds : List (Nat × (Y → List XV))) (y : Y) : Nat → List XLB → (List XLB → Prop) → Prop
  | _, [], k => k []
  | i, b :: r, k => keepK ds y (i + 1) r fun r' => match b with
    | .cells t _ => match dsL ds i with
      | some V => k (.cells t (V y) :: r')
      | none => k (.none :: r')
    | _ => k (.none :: r')
def keepH {Y : Type} (ds : List (Nat × (Y → List XV))) (y : Y) : Nat → List XLB → List XLB
  | _, [] => []
  | i, b :: r => keepB ds y i b :: keepH ds y (i + 1) r
theorem keepK_ok {Y : Type} {ds : List (Nat × (Y → List XV))} {y : Y} : ∀ {i : Nat} {h : List XLB} {k : List XLB → Prop}, keepK ds y i h k → k (keepH ds y i h)
  | _, [], _, hh => hh
  | i, b :: r, k, hh => by
    have := keepK_ok (i := i + 1) (h := r) hh
    simp only [keepH]
    cases b with
    | cells t cs =>
      simp only [keepB]
      simp only at this
      cases hd : dsL ds i with
      | none => rw [hd] at this; exact this
      | some V => rw [hd] at this; exact this
    | none => exact this
    | row _ _ _ _ => exact this
theorem keepH_get {Y : Type} {ds : List (Nat × (Y → List XV))} {y : Y} : ∀ {h : List XLB} {i j : Nat}, hget (keepH ds y i h) j = keepB ds y (i + j) (hget h j)
  | [], i, j => rfl
  | b :: r, i, 0 => rfl
  | b :: r, i, j + 1 => by
    show hget (keepH ds y (i + 1) r) j = keepB ds y (i + (j + 1)) (hget r j)
    rw [keepH_get, show i + 1 + j = i + (j + 1) by omega]
def ssE {Y : Type} (ss : List (Nat × (Y → XV))) (y : Y) : Env := match ss with
  | [] => []
  | (d, v) :: r => (d, v y) :: ssE r y
theorem ssE_look {Y : Type} {y : Y} {e : Env} : ∀ {ss : List (Nat × (Y → XV))} {d : Nat}, (∃ p ∈ ss, p.1 = d ∧ look (ssE ss y ++ e) d = p.2 y) ∨ look (ssE ss y ++ e) d = look e d
  | [], d => .inr rfl
  | (d0, v) :: r, d => by
    simp only [ssE, List.cons_append, look]
    cases hb : Nat.beq d0 d with
    | true => exact .inl ⟨(d0, v), by simp, Nat.eq_of_beq_eq_true hb, rfl⟩
    | false =>
      rcases ssE_look (ss := r) (d := d) with ⟨p, h1, h2, h3⟩ | h1
      · exact .inl ⟨p, by simp [h1], h2, h3⟩
      · exact .inr h1
def dgX {Y : Type} (ds : List (Nat × (Y → List XV))) : XV → XV
  | .p (.v x) h => .p (.v x) h
  | .p .nil_ h => .p .nil_ h
  | .pin u t h => .pin u t h
  | .ptr i off => match dsL ds i with
    | some _ => .ptr i off
    | none => .any
  | _ => .any
theorem dg_dn {Y : Type} {ds : List (Nat × (Y → List XV))} {C C' : Cx} {v : XV} {u : Value} (hp : ∀ i, (dsL ds i).isSome = true → C.pres i → C'.pres i ∧ C'.ρ i = C.ρ i) (h : Dn C v.den u) : Dn C' (dgX ds v).den u := by
  cases v with
  | p t hn => cases t <;> simp only [dgX, XV.den, Dn] at h ⊢ <;> exact h
  | pin x t hn => simp only [dgX, XV.den, Dn] at h ⊢; exact h
  | ptr i off =>
    simp only [dgX]
    cases hd : dsL ds i with
    | none => simp [XV.den, Dn]
    | some V =>
      simp only [XV.den, Dn] at h ⊢
      obtain ⟨h1, g, h2, h3⟩ := h
      obtain ⟨h4, h5⟩ := hp i (by rw [hd]; rfl) h1
      exact ⟨h4, g, by rw [h5]; exact h2, h3⟩
  | _ => simp [dgX, XV.den, Dn]
theorem cxOf_here {B : Nat} {ρ : Nat → Value} {h h' : Nat → LB} {w : World} (hh : ∀ i, (h i).here ↔ (h' i).here) : cxOf B ρ h w = cxOf B ρ h' w := by
  unfold cxOf
  have e1 : (fun i => (h i).here) = fun i => (h' i).here := funext fun i => propext (hh i)
  have e2 : (fun k => ∀ i, (h i).here → blkOf (ρ i) ≠ some k) = fun k => ∀ i, (h' i).here → blkOf (ρ i) ≠ some k := funext fun k => propext ⟨fun H i hi => H i ((hh i).2 hi), fun H i hi => H i ((hh i).1 hi)⟩
  rw [e1, e2]
section
variable {P : Program} {B : Nat} {w0 : World} {n : Nat} {e : Env} {h : List XLB} {gs : Frames}
end
end Go.Proofs.YtekpmlfcmnlmiaaDoor

namespace Go.Proofs.YtekpmlfcmnlmiaaDoor
open Go.RowKit
set_option linter.unusedVariables false
set_option linter.unusedSimpArgs false

def tidyG : Frames → Frames
  | [] => []
  | (n, e) :: r => (n, dropE [] e) :: tidyG r
mutual
/-- Only local blocks below m are spoken of. -/
def lowB (m : Nat) : XV → Bool
  | .p _ _ => true
  | .any => true
  | .row j => Nat.blt j m
  | .ptr j _ => Nat.blt j m
  | .rp j _ _ _ => Nat.blt j m
  | .ag vs => lowBL m vs
  | .tu vs => lowBL m vs
  | .fu _ vs => lowBL m vs
  | .ow _ _ _ _ => true
  | .pin _ _ _ => true
def lowBL (m : Nat) : List XV → Bool
  | [] => true
  | v :: vs => match lowB m v with
    | true => lowBL m vs
    | false => false
end
mutual
theorem lowX_id {m : Nat} : ∀ v : XV, lowB m v = true → lowX m v = v
  | .p _ _, _ => rfl
  | .any, _ => rfl
  | .row j, h => by simp only [lowB] at h; simp only [lowX, h]
  | .ptr j _, h => by simp only [lowB] at h; simp only [lowX, h]
  | .rp j _ _ _, h => by simp only [lowB] at h; simp only [lowX, h]
  | .ag vs, h => by simp only [lowB] at h; simp only [lowX, lowXL_id vs h]
  | .tu vs, h => by simp only [lowB] at h; simp only [lowX, lowXL_id vs h]
  | .fu _ vs, h => by simp only [lowB] at h; simp only [lowX, lowXL_id vs h]
  | .ow _ _ _ _, _ => rfl
  | .pin _ _ _, _ => rfl
theorem lowXL_id {m : Nat} : ∀ vs : List XV, lowBL m vs = true → lowXL m vs = vs
  | [], _ => rfl
  | v :: vs, h => by
    simp only [lowBL] at h
    split at h
    · rename_i h1
      simp only [lowXL, lowX_id v h1, lowXL_id vs h]
    · cases h
end
def lowE (m : Nat) : List Nat → Env → Bool
  | _, [] => true
  | ds, x :: r => match memN x.1 ds with
    | true => false
    | false => match lowB m x.2 with
      | true => lowE m (x.1 :: ds) r
      | false => false
theorem memN_ne {d i : Nat} {ds : List Nat} (h : memN d ds = false) (hi : i ∈ ds) : i ≠ d := by
  induction ds with
  | nil => cases hi
  | cons x r ih =>
    simp only [memN] at h
    cases hb : Nat.beq x d with
    | true => rw [hb] at h; cases h
    | false =>
      rw [hb] at h
      rcases List.mem_cons.1 hi with rfl | hi
      · exact Nat.ne_of_beq_eq_false hb
      · exact ih h hi
theorem lowE_le {m : Nat} : ∀ {r pre : Env} {ds : List Nat}, (∀ x ∈ pre, x.1 ∈ ds) → lowE m ds r = true → LeEnv m (pre ++ r) r
  | [], _, _, _, _ => True.intro
  | x :: r, pre, ds, hp, h => by
    simp only [lowE] at h
    split at h
    · cases h
    · rename_i h1
      split at h
      · rename_i h2
        have e1 : look (pre ++ x :: r) x.1 = x.2 := by
          have h3 : ∀ y ∈ pre, y.1 ≠ x.1 := fun y hy => memN_ne h1 (hp y hy)
          clear hp
          induction pre with
          | nil => exact look_same r x.1 x.2
          | cons y p ih =>
            have := look_ne (p ++ x :: r) y.2 (h3 y (List.mem_cons_self ..))
            exact this.trans (ih fun z hz => h3 z (List.mem_cons_of_mem _ hz))
        refine ⟨by rw [e1, lowX_id _ h2]; exact .rfl, ?_⟩
        have := lowE_le (m := m) (r := r) (pre := pre ++ [x]) (ds := x.1 :: ds) (fun y hy => by
          rcases List.mem_append.1 hy with hy | hy
          · exact List.mem_cons_of_mem _ (hp y hy)
          · rw [List.mem_singleton.1 hy]; exact List.mem_cons_self ..) h
        rwa [List.append_assoc] at this
      · cases h
def lowG (m : Nat) : Frames → Bool
  | [] => true
  | f :: r => match lowE m [] f.2 with
    | true => lowG m r
    | false => false
/-- Frames whose slots are told once, and that speak of local blocks below m alone. -/
theorem LeFr.same {m : Nat} : ∀ {gs : Frames}, lowG m gs = true → LeFr m gs gs
  | [], _ => rfl
  | f :: r, h => by
    simp only [lowG] at h
    split at h
    · rename_i h1
      exact ⟨f, r, rfl, rfl, lowE_le (pre := []) (fun _ hx => by cases hx) h1, LeFr.same h⟩
    · cases h
section
variable {P : Program} {B : Nat} {w0 : World} {T : Tab} {n : Nat} {e : Env} {h : List XLB} {gs : Frames} {K : XQ} {c : Code}
/-- Steps told one by one: what the kernel then compares stays small. -/
theorem X.skip {T : Tab} (hx : K .normal e h gs) : X P B w0 T n .skip e h gs K := hx
end
end Go.Proofs.YtekpmlfcmnlmiaaDoor
