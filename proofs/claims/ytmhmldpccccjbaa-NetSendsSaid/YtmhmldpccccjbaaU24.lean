/- What is told may be taken together, in one step, and opened again. No condition. -/
import Derived.Test.YtmhmldpccccjbaaU9
import Derived.Test.YtmhmldpccccjbaaU8
import Derived.Test.YtmhmldpccccjbaaU12
namespace Go.Proofs.Ytmhmldpccccjbaa
open Go.RowKit
set_option linter.unusedVariables false
set_option linter.unusedSimpArgs false

/-- Numbers are written over numbers behind a mark, in blocks of which may be spoken alone. -/
structure ShpS (S : Nat → Prop) (M : Nat) (w w' : World) : Prop where
  s : Shp M w w'
  k : ∀ k, k < w.heap.size → ¬ S k → w'.heap[k]? = w.heap[k]?
theorem ShpS.refl (S : Nat → Prop) (M : Nat) (w : World) : ShpS S M w w := ⟨.refl _ _, fun _ _ _ => rfl⟩
theorem ShpS.grow {S : Nat → Prop} {M : Nat} {w w' w2 : World} (h : ShpS S M w w') (hM : M ≤ w'.heap.size) (hb : Below w'.heap.size w' w2) : ShpS S M w w2 where
  s := h.s.grow hM hb
  k k hk hs := (hb.block k (Nat.lt_of_lt_of_le hk h.s.below.size)).trans (h.k k hk hs)
theorem ShpS.set {S : Nat → Prop} {M : Nat} {w w' : World} (h : ShpS S M w w') {q : Addr} (hq : M ≤ q.block) (hS : S q.block) {k : IntKind} (hc : ICell w' q k) (y : Int) : ShpS S M w (w'.setCell q (.int k y)) where
  s := h.s.set hq hc y
  k j hj hs := (Below.heap_setCell _ _ _ j (fun e => hs (e ▸ hS))).trans (h.k j hj hs)
/-- A function that writes numbers over numbers in what was made behind a mark, and in no local block. -/
def SpL (P : Program) (f : FuncId) (ts : List TV) : Prop := entB P f = true ∧ ∀ (C : Cx) (vals : List Value), C.B ≤ C.w.heap.size → DnL C ts vals → Calls P f vals.toArray C.w fun e w' => e = .returned (.tuple #[]) ∧ ShpS C.S C.B C.w w'
theorem SpL.sp {P : Program} {f : FuncId} {ts : List TV} (h : SpL P f ts) : SpM P f ts := ⟨h.1, fun C vals hB hd => (h.2 C vals hB hd).mono fun e w' hh => ⟨hh.1, ⟨hh.2.s.below, hh.2.s.oth⟩⟩⟩
/-- What is told of some. -/
def dsL {α : Type} : List (Nat × α) → Nat → Option α
  | [], _ => none
  | (i, v) :: r, j => match Nat.beq i j with
    | true => some v
    | false => dsL r j
def isCells : XLB → Bool
  | .cells _ _ => true
  | _ => false
theorem dsL_all {α : Type} {q : Nat → Bool} : ∀ {ds : List (Nat × α)} {i : Nat} {v : α}, (ds.all fun p => q p.1) = true → dsL ds i = some v → q i = true
  | [], i, v, _, h => by cases h
  | (j, w) :: r, i, v, ha, h => by
    simp only [List.all_cons, Bool.and_eq_true] at ha
    simp only [dsL] at h
    cases hb : Nat.beq j i with
    | true => rw [← Nat.eq_of_beq_eq_true hb]; exact ha.1
    | false => rw [hb] at h; exact dsL_all ha.2 h
def keepB {Y : Type} (ds : List (Nat × (Y → List XV))) (y : Y) (i : Nat) : XLB → XLB
  | .cells t _ => match dsL ds i with
    | some V => .cells t (V y)
    | none => .none
  | _ => .none
def keepK {Y : Type} (ds : List (Nat × (Y → List XV))) (y : Y) : Nat → List XLB → (List XLB → Prop) → Prop
  | _, [], k => k []
  | i, b :: r, k => keepK ds y (i + 1) r fun r' => match b with
    | .cells t _ => match dsL ds i with
      | some V => k (.cells t (V y) :: r')
      | none => k (.none :: r')
    | _ => k (.none :: r')
def keepH {Y : Type} (ds : List (Nat × (Y → List XV))) (y : Y) : Nat → List XLB → List XLB
  | _, [] => []
  | i, b :: r => keepB ds y i b :: keepH ds y (i + 1) r
theorem keepH_nx {Y : Type} (ds : List (Nat × (Y → List XV))) (y : Y) : ∀ (i : Nat) (h : List XLB) (j : Nat), (Go.Proofs.Ytmhmldpccccjbaa.hf ((keepH ds y i h).map XLB.den) j).nx
  | _, [], j => by simp [keepH, Go.Proofs.Ytmhmldpccccjbaa.hf, LB.nx]
  | i, b :: r, 0 => by
    show (keepB ds y i b).den.nx
    cases b <;> try trivial
    unfold keepB
    simp only
    split <;> trivial
  | i, b :: r, j + 1 => by
    have := keepH_nx ds y (i + 1) r j
    simpa [keepH, Go.Proofs.Ytmhmldpccccjbaa.hf] using this
theorem keepK_ok {Y : Type} {ds : List (Nat × (Y → List XV))} {y : Y} : ∀ {i : Nat} {h : List XLB} {k : List XLB → Prop}, keepK ds y i h k → k (keepH ds y i h)
  | _, [], _, hh => hh
  | i, b :: r, k, hh => by
    have := keepK_ok (i := i + 1) (h := r) hh
    simp only [keepH]
    cases b with
    | cells t cs =>
      simp only [keepB]
      simp only at this
      cases hd : dsL ds i with
      | none => rw [hd] at this; exact this
      | some V => rw [hd] at this; exact this
    | none => exact this
    | ext _ => exact this
    | row _ _ _ _ => exact this
theorem keepH_get {Y : Type} {ds : List (Nat × (Y → List XV))} {y : Y} : ∀ {h : List XLB} {i j : Nat}, hget (keepH ds y i h) j = keepB ds y (i + j) (hget h j)
  | [], i, j => rfl
  | b :: r, i, 0 => rfl
  | b :: r, i, j + 1 => by
    show hget (keepH ds y (i + 1) r) j = keepB ds y (i + (j + 1)) (hget r j)
    rw [keepH_get, show i + 1 + j = i + (j + 1) by omega]
def ssE {Y : Type} (ss : List (Nat × (Y → XV))) (y : Y) : Env := match ss with
  | [] => []
  | (d, v) :: r => (d, v y) :: ssE r y
theorem ssE_look {Y : Type} {y : Y} {e : Env} : ∀ {ss : List (Nat × (Y → XV))} {d : Nat}, (∃ p ∈ ss, p.1 = d ∧ look (ssE ss y ++ e) d = p.2 y) ∨ look (ssE ss y ++ e) d = look e d
  | [], d => .inr rfl
  | (d0, v) :: r, d => by
    simp only [ssE, List.cons_append, look]
    cases hb : Nat.beq d0 d with
    | true => exact .inl ⟨(d0, v), by simp, Nat.eq_of_beq_eq_true hb, rfl⟩
    | false =>
      rcases ssE_look (ss := r) (d := d) with ⟨p, h1, h2, h3⟩ | h1
      · exact .inl ⟨p, by simp [h1], h2, h3⟩
      · exact .inr h1
def dgX {Y : Type} (ds : List (Nat × (Y → List XV))) : XV → XV
  | .p (.v x) h => .p (.v x) h
  | .p .nil_ h => .p .nil_ h
  | .pin u t h => .pin u t h
  | .ptr i off => match dsL ds i with
    | some _ => .ptr i off
    | none => .any
  | _ => .any
theorem dg_dn {Y : Type} {ds : List (Nat × (Y → List XV))} {C C' : Cx} {v : XV} {u : Value} (hp : ∀ i, (dsL ds i).isSome = true → C.pres i → C'.pres i ∧ C'.ρ i = C.ρ i) (h : Dn C v.den u) : Dn C' (dgX ds v).den u := by
  cases v with
  | p t hn => cases t <;> simp only [dgX, XV.den, Dn] at h ⊢ <;> exact h
  | pin x t hn => simp only [dgX, XV.den, Dn] at h ⊢; exact h
  | ptr i off =>
    simp only [dgX]
    cases hd : dsL ds i with
    | none => simp [XV.den, Dn]
    | some V =>
      simp only [XV.den, Dn] at h ⊢
      obtain ⟨h1, g, h2, h3⟩ := h
      obtain ⟨h4, h5⟩ := hp i (by rw [hd]; rfl) h1
      exact ⟨h4, g, by rw [h5]; exact h2, h3⟩
  | _ => simp [dgX, XV.den, Dn]
theorem cxOf_here {B : Nat} {ρ : Nat → Value} {h h' : Nat → LB} {w : World} (hh : ∀ i, (h i).here ↔ (h' i).here) (h1 : ∀ i, (h i).nx) (h2 : ∀ i, (h' i).nx) : cxOf B ρ h w = cxOf B ρ h' w := by
  unfold cxOf
  have e1 : (fun i => (h i).here) = fun i => (h' i).here := funext fun i => propext (hh i)
  have e2 : (fun k => (∀ i, (h i).here → blkOf (ρ i) ≠ some k) ∧ ∀ i, ¬ (h i).ps (ρ i) k) = fun k => (∀ i, (h' i).here → blkOf (ρ i) ≠ some k) ∧ ∀ i, ¬ (h' i).ps (ρ i) k := funext fun k => propext ⟨fun H => ⟨fun i hi => H.1 i ((hh i).2 hi), fun i => LB.nx_ps (h2 i)⟩, fun H => ⟨fun i hi => H.1 i ((hh i).1 hi), fun i => LB.nx_ps (h1 i)⟩⟩
  have e3 : ∀ {g : Nat → LB} (hg : ∀ i, (g i).nx) (i k : Nat), ¬ (g i).zs (ρ i) k := fun hg i k hz => by
    obtain ⟨x, e, h1, _⟩ := LB.zs_of hz
    have := hg i
    rw [e] at this
    exact this
  rw [e1, e2]
  congr 1
  exact funext fun i => funext fun k => propext ⟨fun H => absurd H.2.1 (e3 h1 i k), fun H => absurd H.2.1 (e3 h2 i k)⟩
section
variable {P : Program} {B : Nat} {w0 : World} {n : Nat} {e : Env} {h : List XLB} {gs : Frames}
end
end Go.Proofs.Ytmhmldpccccjbaa

namespace Go.Proofs.Ytmhmldpccccjbaa
open Go.RowKit
set_option linter.unusedVariables false
set_option linter.unusedSimpArgs false

theorem dropE_look : ∀ (e : Env) (ds : List Nat) (d : Nat), memN d ds = false → look (dropE ds e) d = look e d
  | [], _, _, _ => rfl
  | (i, v) :: r, ds, d, h => by
    simp only [dropE]
    cases hm : memN i ds with
    | true =>
      have hne : i ≠ d := fun e => by rw [e, h] at hm; cases hm
      rw [look_ne r v hne]
      exact dropE_look r ds d h
    | false =>
      by_cases hd : i = d
      · subst hd
        rw [look_same, look_same]
      · rw [look_ne _ v hd, look_ne r v hd]
        refine dropE_look r (i :: ds) d ?_
        have hb : Nat.beq i d = false := by
          cases hb : Nat.beq i d with
          | false => rfl
          | true => exact absurd (Nat.eq_of_beq_eq_true hb) hd
        simp only [memN, hb, h]
theorem toL_drop (n : Nat) (e : Env) : toL n (dropE [] e) = toL n e := by
  unfold toL
  exact List.map_congr_left fun d _ => by rw [dropE_look e [] d rfl]
def tidyG : Frames → Frames
  | [] => []
  | (n, e) :: r => (n, dropE [] e) :: tidyG r
theorem denG_tidy : ∀ gs : Frames, denG (tidyG gs) = denG gs
  | [] => rfl
  | (n, e) :: r => by simp only [tidyG, denG, toL_drop, denG_tidy r]
mutual
/-- Only local blocks below m are spoken of. -/
def lowB (m : Nat) : XV → Bool
  | .p _ _ => true
  | .any => true
  | .row j => Nat.blt j m
  | .ptr j _ => Nat.blt j m
  | .rp j _ _ _ => Nat.blt j m
  | .ag vs => lowBL m vs
  | .tu vs => lowBL m vs
  | .fu _ vs => lowBL m vs
  | .ow _ _ _ _ => true
  | .pin _ _ _ => true
  | .z j _ _ => Nat.blt j m
  | .win j _ _ => Nat.blt j m
def lowBL (m : Nat) : List XV → Bool
  | [] => true
  | v :: vs => match lowB m v with
    | true => lowBL m vs
    | false => false
end
mutual
theorem lowX_id {m : Nat} : ∀ v : XV, lowB m v = true → lowX m v = v
  | .p _ _, _ => rfl
  | .any, _ => rfl
  | .row j, h => by simp only [lowB] at h; simp only [lowX, h]
  | .ptr j _, h => by simp only [lowB] at h; simp only [lowX, h]
  | .rp j _ _ _, h => by simp only [lowB] at h; simp only [lowX, h]
  | .ag vs, h => by simp only [lowB] at h; simp only [lowX, lowXL_id vs h]
  | .tu vs, h => by simp only [lowB] at h; simp only [lowX, lowXL_id vs h]
  | .fu _ vs, h => by simp only [lowB] at h; simp only [lowX, lowXL_id vs h]
  | .ow _ _ _ _, _ => rfl
  | .pin _ _ _, _ => rfl
  | .z j _ _, h => by simp only [lowB] at h; simp only [lowX, h]
  | .win j _ _, h => by simp only [lowB] at h; simp only [lowX, h]
theorem lowXL_id {m : Nat} : ∀ vs : List XV, lowBL m vs = true → lowXL m vs = vs
  | [], _ => rfl
  | v :: vs, h => by
    simp only [lowBL] at h
    split at h
    · rename_i h1
      simp only [lowXL, lowX_id v h1, lowXL_id vs h]
    · cases h
end
def lowE (m : Nat) : List Nat → Env → Bool
  | _, [] => true
  | ds, x :: r => match memN x.1 ds with
    | true => false
    | false => match lowB m x.2 with
      | true => lowE m (x.1 :: ds) r
      | false => false
theorem memN_ne {d i : Nat} {ds : List Nat} (h : memN d ds = false) (hi : i ∈ ds) : i ≠ d := by
  induction ds with
  | nil => cases hi
  | cons x r ih =>
    simp only [memN] at h
    cases hb : Nat.beq x d with
    | true => rw [hb] at h; cases h
    | false =>
      rw [hb] at h
      rcases List.mem_cons.1 hi with rfl | hi
      · exact Nat.ne_of_beq_eq_false hb
      · exact ih h hi
theorem lowE_le {m : Nat} : ∀ {r pre : Env} {ds : List Nat}, (∀ x ∈ pre, x.1 ∈ ds) → lowE m ds r = true → LeEnv m (pre ++ r) r
  | [], _, _, _, _ => True.intro
  | x :: r, pre, ds, hp, h => by
    simp only [lowE] at h
    split at h
    · cases h
    · rename_i h1
      split at h
      · rename_i h2
        have e1 : look (pre ++ x :: r) x.1 = x.2 := by
          have h3 : ∀ y ∈ pre, y.1 ≠ x.1 := fun y hy => memN_ne h1 (hp y hy)
          clear hp
          induction pre with
          | nil => exact look_same r x.1 x.2
          | cons y p ih =>
            have := look_ne (p ++ x :: r) y.2 (h3 y (List.mem_cons_self ..))
            exact this.trans (ih fun z hz => h3 z (List.mem_cons_of_mem _ hz))
        refine ⟨by rw [e1, lowX_id _ h2]; exact .rfl, ?_⟩
        have := lowE_le (m := m) (r := r) (pre := pre ++ [x]) (ds := x.1 :: ds) (fun y hy => by
          rcases List.mem_append.1 hy with hy | hy
          · exact List.mem_cons_of_mem _ (hp y hy)
          · rw [List.mem_singleton.1 hy]; exact List.mem_cons_self ..) h
        rwa [List.append_assoc] at this
      · cases h
def lowG (m : Nat) : Frames → Bool
  | [] => true
  | f :: r => match lowE m [] f.2 with
    | true => lowG m r
    | false => false
/-- Frames whose slots are told once, and that speak of local blocks below m alone. -/
theorem LeFr.same {m : Nat} : ∀ {gs : Frames}, lowG m gs = true → LeFr m gs gs
  | [], _ => rfl
  | f :: r, h => by
    simp only [lowG] at h
    split at h
    · rename_i h1
      exact ⟨f, r, rfl, rfl, lowE_le (pre := []) (fun _ hx => by cases hx) h1, LeFr.same h⟩
    · cases h
section
variable {P : Program} {B : Nat} {w0 : World} {T : Tab} {n : Nat} {e : Env} {h : List XLB} {gs : Frames} {K : XQ} {c : Code}
/-- Steps told one by one: what the kernel then compares stays small. -/
theorem X.skip {T : Tab} (hx : K .normal e h gs) : X P B w0 T n .skip e h gs K := hx
/-- What was written over is struck, here and in the frames that wait. -/
theorem XT.tidy (hx : forceE (dropE [] e) fun e' => forceG (tidyG gs) fun gs' => XT P B w0 n c e' h gs' K) : XT P B w0 n c e h gs K := ⟨fun gh Q hq => by
  have := (forceG_ok (k := fun gs' => XT P B w0 n c (dropE [] e) h gs' K) (forceE_ok (k := fun e' => forceG (tidyG gs) fun gs' => XT P B w0 n c e' h gs' K) hx)).ok gh Q hq
  have e1 : xst n (dropE [] e) h (tidyG gs) = xst n e h gs := by simp only [xst, toL_drop, denG_tidy]
  rwa [e1] at this⟩
end
end Go.Proofs.Ytmhmldpccccjbaa

namespace Go.Proofs.Ytmhmldpccccjbaa
open Go.RowKit
set_option linter.unusedVariables false
set_option linter.unusedSimpArgs false

section
variable {P : Program} {B : Nat} {w0 : World} {n : Nat} {e : Env} {h : List XLB} {gs : Frames}
/-- What local blocks and slots are behind numbers that were written over numbers. -/
theorem shpS_rel {gh : List Value} {ρ : Nat → Value} {a : Act} {w w' : World} {Y : Type} (ds : List (Nat × (Y → List XV))) (ss : List (Nat × (Y → XV))) (r : Y → Prop) (hr : RelS B w0 gh ρ (xst n e h gs) a w) (hb : ShpS (cxOf B ρ (Go.Proofs.Ytmhmldpccccjbaa.hf (h.map XLB.den)) w).S B w w') (hss : (ss.all fun p => Nat.blt p.1 n) = true) (hcs : (ds.all fun p => isCells (hget h p.1)) = true)
    (hbl : ∀ (C C' : Cx), ShpS C.S C.B C.w C'.w → C'.B = C.B → (∀ k, C.S k → C'.S k) → ∀ (us : Nat → List Value) (xs : Nat → Value), (∀ i t cs, hget h i = .cells t cs → DnL C (XV.denL cs) (us i)) → (∀ p ∈ ss, Dn C (look e p.1).den (xs p.1)) → ∃ y, r y ∧ (∀ i V t cs, dsL ds i = some V → hget h i = .cells t cs → DnL C' (XV.denL (V y)) (us i)) ∧ ∀ p ∈ ss, Dn C' (p.2 y).den (xs p.1)) :
    ∃ y, r y ∧ Rel B w0 ρ (Go.Proofs.Ytmhmldpccccjbaa.hf ((keepH ds y 0 h).map XLB.den)) w' ∧ DnL (cxOf B ρ (Go.Proofs.Ytmhmldpccccjbaa.hf ((keepH ds y 0 h).map XLB.den)) w') (toL n (ssE ss y ++ mapE (dgX ds) e)) a.tmps.toList := by
  have R := hr.rel
  have hblk : ∀ i, ∃ us : List Value, ∀ t cs, hget h i = .cells t cs → (∃ g, ρ i = .pointer (some ⟨g, 0, none⟩) ∧ Blk w g t us.toArray ∧ B ≤ g) ∧ DnL (cxOf B ρ (Go.Proofs.Ytmhmldpccccjbaa.hf (h.map XLB.den)) w) (XV.denL cs) us := fun i => by
    cases hi : hget h i with
    | cells t cs =>
      have h2 : Go.Proofs.Ytmhmldpccccjbaa.hf (h.map XLB.den) i = .cells t (XV.denL cs) := by rw [← hget_den, hi]; rfl
      obtain ⟨g, us, q1, q2, q3, q4⟩ := R.blk i _ _ h2
      exact ⟨us, fun t' cs' e => by injection e with e1 e2; subst e1 e2; exact ⟨⟨g, q1, q2, q3⟩, q4⟩⟩
    | _ => exact ⟨[], fun t cs e => by cases e⟩
  obtain ⟨us, hus⟩ := Classical.axiomOfChoice hblk
  obtain ⟨xs, hxs⟩ : ∃ xs : Nat → Value, ∀ d (u : Value), a.tmps.toList[d]? = some u → xs d = u := ⟨fun d => (a.tmps.toList[d]?).getD .nilFunc, fun d u hu => by simp [hu]⟩
  have hssn : ∀ p ∈ ss, p.1 < n := fun p hp => Nat.blt_eq.mp (List.all_eq_true.1 hss p hp)
  obtain ⟨hx, hxn, hhx⟩ : ∃ hx : Nat → LB, (∀ i, (hx i).nx) ∧ ∀ i, (hx i).here ↔ ∃ V t cs, dsL ds i = some V ∧ hget h i = .cells t cs := by
    classical
    refine ⟨fun i => if ∃ V t cs, dsL ds i = some V ∧ hget h i = .cells t cs then .cells 0 [] else .none, fun i => ?_, fun i => ?_⟩
    · show LB.nx (if _ then _ else _)
      split <;> trivial
    by_cases hc : ∃ V t cs, dsL ds i = some V ∧ hget h i = .cells t cs
    · simp only [if_pos hc]; exact ⟨fun _ => hc, fun _ => trivial⟩
    · simp only [if_neg hc]; exact ⟨fun hh => hh.elim, fun hh => absurd hh hc⟩
  have hin : ∀ i, (hx i).here → (Go.Proofs.Ytmhmldpccccjbaa.hf (h.map XLB.den) i).here := fun i hi => by
    obtain ⟨V, t, cs, _, h2⟩ := (hhx i).1 hi
    rw [← hget_den, h2]
    trivial
  obtain ⟨y, hy, hy1, hy2⟩ := hbl (cxOf B ρ (Go.Proofs.Ytmhmldpccccjbaa.hf (h.map XLB.den)) w) (cxOf B ρ hx w') hb rfl (fun k hk => ⟨fun i hi => hk.1 i (hin i hi), fun i => LB.nx_ps (hxn i)⟩) us xs (fun i t cs hi => (hus i t cs hi).2) (fun p hp => by
    obtain ⟨u, hu, hu2⟩ := hr.slots.at_ p.1 _ (toL_get? e (hssn p hp))
    rw [hxs _ _ hu]; exact hu2)
  have hden : ∀ i, Go.Proofs.Ytmhmldpccccjbaa.hf ((keepH ds y 0 h).map XLB.den) i = (keepB ds y i (hget h i)).den := fun i => by rw [← hget_den, keepH_get, Nat.zero_add]
  have hiff : ∀ i, (Go.Proofs.Ytmhmldpccccjbaa.hf ((keepH ds y 0 h).map XLB.den) i).here ↔ (hx i).here := fun i => by
    rw [hden, hhx]
    cases h2 : hget h i with
    | cells t cs =>
      cases h1 : dsL ds i with
      | none => simp [keepB, h1, XLB.den, LB.here]
      | some V => simp [keepB, h1, XLB.den, LB.here]
    | none => simp [keepB, XLB.den, LB.here]
    | row _ _ _ _ => simp [keepB, XLB.den, LB.here]
    | ext _ => simp [keepB, XLB.den, LB.here]
  have hC : cxOf B ρ (Go.Proofs.Ytmhmldpccccjbaa.hf ((keepH ds y 0 h).map XLB.den)) w' = cxOf B ρ hx w' := cxOf_here hiff (keepH_nx _ _ _ _) hxn
  have hcell : ∀ i t cs, Go.Proofs.Ytmhmldpccccjbaa.hf ((keepH ds y 0 h).map XLB.den) i = .cells t cs → ∃ V cs0, dsL ds i = some V ∧ hget h i = .cells t cs0 ∧ cs = XV.denL (V y) := fun i t cs hi => by
    rw [hden] at hi
    cases h2 : hget h i with
    | cells t2 cs2 =>
      rw [h2] at hi
      cases h1 : dsL ds i with
      | none => simp only [keepB, h1, XLB.den] at hi; cases hi
      | some V =>
        simp only [keepB, h1, XLB.den] at hi
        injection hi with hi1 hi2
        subst hi1 hi2
        exact ⟨V, cs2, rfl, rfl, rfl⟩
    | none => rw [h2] at hi; simp only [keepB, XLB.den] at hi; cases hi
    | row _ _ _ _ => rw [h2] at hi; simp only [keepB, XLB.den] at hi; cases hi
    | ext _ => rw [h2] at hi; simp only [keepB, XLB.den] at hi; cases hi
  have hrow : ∀ i e0 sz els, Go.Proofs.Ytmhmldpccccjbaa.hf ((keepH ds y 0 h).map XLB.den) i ≠ .row e0 sz els := fun i e0 sz els hi => by
    rw [hden] at hi
    cases h2 : hget h i with
    | cells t2 cs2 =>
      rw [h2] at hi
      cases h1 : dsL ds i <;> simp only [keepB, h1, XLB.den] at hi <;> cases hi
    | none => rw [h2] at hi; simp only [keepB, XLB.den] at hi; cases hi
    | row _ _ _ _ => rw [h2] at hi; simp only [keepB, XLB.den] at hi; cases hi
    | ext _ => rw [h2] at hi; simp only [keepB, XLB.den] at hi; cases hi
  refine ⟨y, hy, {
    below := R.below.trans hb.s.below
    oth := R.oth.trans hb.s.oth
    ext := fun i x e => by have := keepH_nx ds y 0 h i; rw [e] at this; exact this.elim
    gl0 := R.gl0
    size := Nat.le_trans R.size hb.s.below.size
    blk := fun i t cs hi => by
      obtain ⟨V, cs0, h1, h2, rfl⟩ := hcell i t cs hi
      obtain ⟨⟨g, q1, q2, q3⟩, _⟩ := hus i t cs0 h2
      refine ⟨g, us i, q1, ?_, q3, by rw [hC]; exact hy1 i V t cs0 h1 h2⟩
      have hh : (Go.Proofs.Ytmhmldpccccjbaa.hf (h.map XLB.den) i).here := by rw [← hget_den, h2]; trivial
      have hlt : g < w.heap.size := q2.lt
      show w'.heap[g]? = _
      rw [hb.k g hlt fun hS => hS.1 i hh (by rw [q1]; rfl)]
      exact q2
    row := fun i e0 sz els hi => absurd hi (hrow i e0 sz els)
    sep := fun i j g hi hj h1 h2 => R.sep i j g (hin i ((hiff i).1 hi)) (hin j ((hiff j).1 hj)) h1 h2
    inj := fun i g hi h1 => Nat.lt_of_lt_of_le (R.inj i g (hin i ((hiff i).1 hi)) h1) hb.s.below.size }, ?_⟩
  rw [hC]
  refine DnL.of_at (by rw [hr.slots.len]; exact (toL_len n _).trans (toL_len n e).symm) fun i t u ht hu => ?_
  obtain ⟨hi, rfl⟩ := toL_at ht
  obtain ⟨u', h3, h4⟩ := hr.slots.at_ i _ (toL_get? e hi)
  rw [hu] at h3
  injection h3 with h3
  subst h3
  rcases ssE_look (ss := ss) (y := y) (e := mapE (dgX ds) e) (d := i) with ⟨p, h5, h6, h7⟩ | h5
  · rw [h7]
    have := hy2 p h5
    rwa [h6, hxs i u hu] at this
  · rw [h5, look_map (f := dgX ds) rfl]
    refine dg_dn (C := cxOf B ρ (Go.Proofs.Ytmhmldpccccjbaa.hf (h.map XLB.den)) w) (fun j hj hpj => ⟨?_, rfl⟩) h4
    show (hx j).here
    rw [hhx]
    cases hd : dsL ds j with
    | none => rw [hd] at hj; cases hj
    | some V =>
      cases h8 : hget h j with
      | cells t cs => exact ⟨V, t, cs, rfl, rfl⟩
      | none => exact absurd hpj (by show ¬ (Go.Proofs.Ytmhmldpccccjbaa.hf (h.map XLB.den) j).here; rw [← hget_den, h8]; simp [XLB.den, LB.here])
      | ext _ => exact absurd (dsL_all (q := fun j => isCells (hget h j)) hcs hd) (by simp [h8, isCells])
      | row e1 sz els hp => exact absurd (dsL_all (q := fun j => isCells (hget h j)) hcs hd) (by simp [h8, isCells])
end
section
variable {P : Program} {B : Nat} {w0 : World} {gh : List Value} {ops : Array Oper}
/-- A cell of bytes that were made behind the mark is written over: no local block is. -/
theorem TL.overS {Q : Exit → St → Prop} {σ : St} {o6 o7 : Oper} {t u : TypeId} {x y z : Operand} {s6 : Nat} {l : List Int} {j : Nat} {m : Int} {ti te tu : TI}
    (h6 : o6.guard = none ∧ o6.op = .indexAddr t x y ∧ o6.dst = some s6) (h7 : o7.guard = none ∧ o7.op = .store u (.tmp s6) z ∧ o7.dst = none) (ht : tiOf P t = some ti) (hk : ti.k = 3) (he : tiOf P ti.el = some te) (hte : te.n = 1) (hu : tiOf P u = some tu) (hun : tu.n = 1)
    (hx : tev σ.s x = .sl true (l.map by1)) (hy : tev σ.s y = .v (.int .i64 (j : Int))) (hj : j < l.length) (hz : ∀ v, tev (σ.s.set s6 v) z = .v (.int .u8 m)) (hs : s6 < σ.s.length)
    (h : ∀ ρ a w w' p, RelS B w0 gh ρ σ a w → ShpS (cxOf B ρ (hf σ.h) w).S B w w' → liftQ B w0 gh Q .normal (a.put (some s6) p) w') : TL P B w0 gh ops [o6, o7] σ Q := fun ρ a w hr => by
  obtain ⟨hg6, ho6, hd6⟩ := h6
  obtain ⟨hg7, ho7, hd7⟩ := h7
  have h1 := tev_dn hr.slots x
  have h2 := tev_dn hr.slots y
  rw [hx] at h1
  rw [hy] at h2
  simp only [Dn] at h1 h2
  obtain ⟨A, cap, css, sz, r1, r2, r3, r4, r5, r6, r7⟩ := h1
  have hll : (l.map by1).length = l.length := by simp
  have hne : l.map by1 ≠ [] := by intro h0; rw [List.map_eq_nil_iff] at h0; rw [h0] at hj; simp at hj
  rcases A with _ | ad
  · exact absurd (r4 rfl) hne
  obtain ⟨r8, r9⟩ := r7 ad rfl
  obtain ⟨r10, r11, r12⟩ := r8 hne
  obtain ⟨r13, r14⟩ := r12 trivial
  have hfl := dnll_by1 r6
  have hcell : w.cell? (ad.add j) = some (.int .u8 l[j]) := r9 j _ (by rw [hfl, List.getElem?_map, List.getElem?_eq_getElem hj]; rfl)
  have hfr : w.frozen? (ad.add j) = false := Unf.frozen (by rw [addr_block]; exact r14)
  have e6 : (execOp a.eval o6).run P w = .ok (.value (.pointer (some (ad.add j)))) w := by
    have : (j : Int) < ((l.map by1).length : Int) := by omega
    have hj2 : j < (l.map by1).length := by omega
    simp [execOp, ho6, h2, r1, Instr.indexAt, asInt_run, run_underlying (ti_slice ht hk), ti_size he, hte, hj]
  refine wpList_plain hg6 fun K hK => ?_
  unfold Oper.wp
  rw [e6]
  refine hK _ _ ?_
  have hs6 := put_dn (dst := some s6) (t := .v (.pointer (some (ad.add j)))) (u := .pointer (some (ad.add j))) hr.slots (by simp [Dn])
  have h3 := tev_dn hs6 z
  have h4 := tev_dn hs6 (.tmp s6)
  simp only at h3 h4
  rw [hz] at h3
  rw [show tev (σ.s.set s6 (.v (.pointer (some (ad.add j))))) (.tmp s6) = .v (.pointer (some (ad.add j))) by simp [tev, hs]] at h4
  simp only [Dn] at h3 h4
  rw [hd6]
  refine wpList_plain hg7 fun K hK => ?_
  unfold Oper.wp
  have hz0 : (ad.add j).add 0 = ad.add j := by simp [Addr.add]
  have e7 : (execOp (a.put (some s6) (.pointer (some (ad.add j)))).eval o7).run P w = .ok .skip (w.setCell (ad.add j) (.int .u8 m)) := by
    have e8 : (storeVar u (ad.add j) (.int .u8 m)).run P w = .ok () (w.setCell (ad.add j) (.int .u8 m)) := by
      simp [storeVar, ti_size hu, hun, Value.cells, storeCells, hz0, run_store P w (ad.add j) (.int .u8 m) .plain rfl, hcell, hfr]
    simp [execOp, ho7, h4, h3, Instr.storeAt, Instr.sureAddr, e8]
  rw [e7]
  refine hK _ _ ?_
  rw [hd7]
  exact h ρ a w _ _ hr ((ShpS.refl _ B w).set (by rw [addr_block]; exact r13) (by rw [addr_block]; exact r10) ⟨_, hcell⟩ m)
end
section
variable {P : Program} {B : Nat} {w0 : World} {T : Tab} {n : Nat} {e : Env} {h : List XLB} {gs : Frames} {K : XQ} {c : Code}
def lowsB (m : Nat) : Env → Bool
  | [] => true
  | x :: r => match lowB m x.2 with
    | true => lowsB m r
    | false => false
theorem memN_iff {d : Nat} : ∀ {ds : List Nat}, memN d ds = true ↔ d ∈ ds
  | [] => by simp [memN]
  | x :: r => by
    simp only [memN, List.mem_cons]
    cases hb : Nat.beq x d with
    | true => simp [(Nat.eq_of_beq_eq_true hb).symm]
    | false =>
      have hne : ¬ d = x := fun e => by subst e; simp at hb
      simp [hne, memN_iff (ds := r)]
theorem dropE_at : ∀ {e : Env} {ds : List Nat} {x : Nat × XV}, x ∈ dropE ds e → look e x.1 = x.2 ∧ x.1 ∉ ds
  | [], ds, x, h => by simp [dropE] at h
  | y :: r, ds, x, h => by
    simp only [dropE] at h
    cases hm : memN y.1 ds with
    | true =>
      rw [hm] at h
      obtain ⟨h1, h2⟩ := dropE_at h
      have hne : y.1 ≠ x.1 := fun e => h2 (e ▸ memN_iff.1 hm)
      exact ⟨(look_ne r y.2 hne).trans h1, h2⟩
    | false =>
      rw [hm] at h
      rcases List.mem_cons.1 h with rfl | h
      · exact ⟨look_same r x.1 x.2, fun hx => by rw [memN_iff.2 hx] at hm; cases hm⟩
      · obtain ⟨h1, h2⟩ := dropE_at h
        have hne : y.1 ≠ x.1 := fun e => h2 (e ▸ List.mem_cons_self)
        exact ⟨(look_ne r y.2 hne).trans h1, fun hx => h2 (List.mem_cons_of_mem _ hx)⟩
theorem leEnv_of {m : Nat} {e : Env} : ∀ {e' : Env}, (∀ x ∈ e', LeV (lowX m (look e x.1)) x.2) → LeEnv m e e'
  | [], _ => trivial
  | x :: r, h => ⟨h x (by simp), leEnv_of fun y hy => h y (by simp [hy])⟩
theorem lowsB_mem {m : Nat} : ∀ {e : Env}, lowsB m e = true → ∀ x ∈ e, lowB m x.2 = true
  | [], _, x, hx => by simp at hx
  | y :: r, h, x, hx => by
    simp only [lowsB] at h
    split at h
    · rename_i hy
      rcases List.mem_cons.1 hx with rfl | hx
      · exact hy
      · exact lowsB_mem h x hx
    · cases h
theorem leEnv_mem {m : Nat} {e : Env} : ∀ {e' : Env}, LeEnv m e e' → ∀ x ∈ e', LeV (lowX m (look e x.1)) x.2
  | [], _, x, hx => by simp at hx
  | y :: r, h, x, hx => by
    rcases List.mem_cons.1 hx with rfl | hx
    · exact h.1
    · exact leEnv_mem h.2 x hx
/-- The slots that were not written, in one step. -/
theorem leEnv_app {m : Nat} {e1 us e : Env} {ds : List Nat} (h2 : dropE ds e1 = dropE ds e) (h3 : lowsB m (dropE ds e) = true) (h1 : LeEnv m e1 us) : LeEnv m e1 (us ++ dropE ds e) := leEnv_of fun x hx => by
  rcases List.mem_append.1 hx with hx | hx
  · exact leEnv_mem h1 x hx
  · have h4 := lowX_id x.2 (lowsB_mem h3 x hx)
    rw [← h2] at hx
    rw [(dropE_at hx).1, h4]
    exact .rfl
/-- What a state says at least, when some rows are written no more. -/
def LeFz (e' : Env) (h' : List XLB) (gs' : Frames) : List Nat → Env → List XLB → Frames → Prop
  | [], e, h, gs => LeX e h gs e' h' gs'
  | j :: js, e, h, gs => frzK e h gs j fun e1 h1 gs1 => LeFz e' h' gs' js e1 h1 gs1
theorem LeFz.sle {e' : Env} {h' : List XLB} {gs' : Frames} (gh : List Value) : ∀ {js : List Nat} {e : Env} {h : List XLB} {gs : Frames}, LeFz e' h' gs' js e h gs → SLe B w0 gh (xst n e h gs) (xst n e' h' gs')
  | [], e, h, gs, hh => LeX.sle hh gh
  | j :: js, e, h, gs, hh => by
    obtain ⟨e1, h1, g1, h2, h3⟩ := frzK_ok (n := n) (B := B) (w0 := w0) hh
    exact (h2 gh).trans (LeFz.sle gh h3)
/-- Ways that meet: what is behind them is walked once. -/
theorem XT.cut (O : TabOk P T) {Y : Type} (ds : List Nat) (us : Y → Env) (hs : Y → List (Nat × XLB)) (r : Y → Prop)
    (ha : X P B w0 T n c e h gs fun ex e1 h1 g1 => match ex with
      | .normal => ∃ y, r y ∧ ∃ js, LeFz (us y ++ dropE ds e) (setsH h (hs y)) gs js e1 h1 g1
      | ex => K ex e1 h1 g1)
    (hb : ∀ y, r y → forceE (us y ++ dropE ds e) fun e' => forceH (setsH h (hs y)) fun h' => K .normal e' h' gs) : XT P B w0 n c e h gs K := ⟨fun gh Q hq ρ a w hr => by
  refine wp_mono ((X_ok O ha).ok gh (fun ex σ => match ex with
    | .normal => ∃ σ', SLe B w0 gh σ σ' ∧ Q .normal σ'
    | ex => Q ex σ) (fun ex e1 h1 gs1 hk => ?_) ρ a w hr) fun ex a w ⟨σ, ρ, h1, h2⟩ => ?_
  · cases ex with
    | normal =>
      obtain ⟨y, hy, js, hl⟩ := hk
      have := forceH_ok (k := fun h' => K .normal _ h' gs) (forceE_ok (k := fun e' => forceH (setsH h (hs y)) fun h' => K .normal e' h' gs) (hb y hy))
      exact ⟨_, hl.sle gh, hq _ _ _ _ this⟩
    | _ => exact hq _ _ _ _ hk
  · cases ex with
    | normal =>
      obtain ⟨σ', h3, h4⟩ := h1
      obtain ⟨ρ', h5⟩ := h3 ρ a w h2
      exact ⟨σ', ρ', h4, h5⟩
    | _ => exact ⟨σ, ρ, h1, h2⟩⟩
/-- The walk goes on behind a place where it stopped. -/
theorem XT.pass (O : TabOk P T) {a b : Code} (hx : X P B w0 T n a e h gs fun ex e h gs => match ex with
    | .normal => X P B w0 T n b e h gs K
    | ex => K ex e h gs) : XT P B w0 n (.seq a b) e h gs K := ⟨fun gh Q hq => by
  refine .seq ((X_ok O hx).ok gh _ fun ex e h gs h1 => ?_)
  cases ex with
  | normal => exact (X_ok O h1).ok gh Q hq
  | _ => exact hq _ _ _ _ h1⟩
/-- Some local blocks and slots are known by their shape, plain slots as they are, nothing else is known any more. -/
theorem XT.keep {Y : Type} (ds : List (Nat × (Y → List XV))) (ss : List (Nat × (Y → XV))) (r : Y → Prop) (hss : (ss.all fun p => Nat.blt p.1 n) = true) (hcs : (ds.all fun p => isCells (hget h p.1)) = true)
    (hbl : ∀ (C C' : Cx), ShpS C.S C.B C.w C'.w → C'.B = C.B → (∀ k, C.S k → C'.S k) → ∀ (us : Nat → List Value) (xs : Nat → Value), (∀ i t cs, hget h i = .cells t cs → DnL C (XV.denL cs) (us i)) → (∀ p ∈ ss, Dn C (look e p.1).den (xs p.1)) → ∃ y, r y ∧ (∀ i V t cs, dsL ds i = some V → hget h i = .cells t cs → DnL C' (XV.denL (V y)) (us i)) ∧ ∀ p ∈ ss, Dn C' (p.2 y).den (xs p.1))
    (hx : ∀ y, r y → keepK ds y 0 h fun h2 => forceE (ssE ss y ++ mapE (dgX ds) e) fun e2 => XT P B w0 n c e2 h2 (anyG gs) K) : XT P B w0 n c e h gs K := ⟨fun gh Q hq ρ a w hr => by
  obtain ⟨y, hy, hR2, hv⟩ := shpS_rel ds ss r hr (ShpS.refl _ _ _) hss hcs hbl
  refine (forceE_ok (k := fun e2 => XT P B w0 n c e2 (keepH ds y 0 h) (anyG gs) K) (keepK_ok (hx y hy))).ok gh Q hq ρ a w ⟨?_, anyG_dn hr.ghost, hR2, hr.defers⟩
  exact hv⟩
end
end Go.Proofs.Ytmhmldpccccjbaa

namespace Go.Proofs.Ytmhmldpccccjbaa
open Go.RowKit
set_option linter.unusedVariables false
set_option linter.unusedSimpArgs false

def wP : (t : TV) → Nl t → XV
  | .v x, h => .p (.v x) h
  | .nil_, h => .p .nil_ h
  | .any, _ | .agg _, _ | .tup _, _ | .fn _ _, _ | .ptr _ _, _ | .row _, _ | .sl _ _, _ | .eptr _, _ | .osl _ _ _, _ | .z _ _, _ | .win _ _ _, _ => .any
mutual
/-- What is still told where memory that is no local block's was written over. -/
def wX : XV → XV
  | .p t h => wP t h
  | .pin u t h => .pin u t h
  | .row i => .row i
  | .ptr i off => .ptr i off
  | .rp i k sz j => .rp i k sz j
  | .z i t h => .z i t h
  | .win i k sz => .win i k sz
  | .ag vs => .ag (wXL vs)
  | .tu vs => .tu (wXL vs)
  | .fu f vs => .fu f (wXL vs)
  | .any => .any
  | .ow _ _ _ _ => .any
def wXL : List XV → List XV
  | [] => []
  | v :: vs => wX v :: wXL vs
end
mutual
theorem wX_dn {C C' : Cx} (hl : ∀ i, C.pres i → C'.pres i ∧ C'.ρ i = C.ρ i) (hz : ∀ i t u, C.pres i → DnZ C.w (C.Z i) C.B t u → DnZ C'.w (C'.Z i) C'.B t u) : ∀ (v : XV) (u : Value), Dn C v.den u → Dn C' (wX v).den u
  | .p t hp, u, h => by cases t <;> simp only [wX, wP, XV.den, Dn] at h ⊢ <;> exact h
  | .pin x t hn, u, h => by simp only [wX, XV.den, Dn] at h ⊢; exact h
  | .row i, u, h => by
    simp only [wX, XV.den, Dn] at h ⊢
    exact ⟨(hl i h.1).1, by rw [(hl i h.1).2]; exact h.2⟩
  | .ptr i off, u, h => by
    simp only [wX, XV.den, Dn] at h ⊢
    obtain ⟨h1, g, h2, h3⟩ := h
    exact ⟨(hl i h1).1, g, by rw [(hl i h1).2]; exact h2, h3⟩
  | .rp i k sz j, u, h => by
    simp only [wX, XV.den, Dn] at h ⊢
    obtain ⟨h1, g, h2, h3⟩ := h
    exact ⟨(hl i h1).1, g, by rw [(hl i h1).2]; exact h2, h3⟩
  | .z i t hn, u, h => by
    simp only [wX, XV.den, Dn] at h ⊢
    exact ⟨(hl i h.1).1, hz i t u h.1 h.2⟩
  | .win i k sz, u, h => by
    simp only [wX, XV.den, Dn] at h ⊢
    obtain ⟨h1, g, n, c, h2, h3⟩ := h
    exact ⟨(hl i h1).1, g, n, c, by rw [(hl i h1).2]; exact h2, h3⟩
  | .ag vs, u, h => by
    simp only [wX, XV.den, Dn] at h ⊢
    obtain ⟨us, h1, h2⟩ := h
    exact ⟨us, h1, wXL_dn hl hz vs us h2⟩
  | .tu vs, u, h => by
    simp only [wX, XV.den, Dn] at h ⊢
    obtain ⟨us, h1, h2⟩ := h
    exact ⟨us, h1, wXL_dn hl hz vs us h2⟩
  | .fu f vs, u, h => by
    simp only [wX, XV.den, Dn] at h ⊢
    obtain ⟨us, h1, h2⟩ := h
    exact ⟨us, h1, wXL_dn hl hz vs us h2⟩
  | .any, u, _ => by simp [wX, XV.den, Dn]
  | .ow _ _ _ _, u, _ => by simp [wX, XV.den, Dn]
theorem wXL_dn {C C' : Cx} (hl : ∀ i, C.pres i → C'.pres i ∧ C'.ρ i = C.ρ i) (hz : ∀ i t u, C.pres i → DnZ C.w (C.Z i) C.B t u → DnZ C'.w (C'.Z i) C'.B t u) : ∀ (vs : List XV) (us : List Value), DnL C (XV.denL vs) us → DnL C' (XV.denL (wXL vs)) us
  | [], us, h => by simp only [wXL, XV.denL, DnL] at h ⊢; exact h
  | v :: vs, us, h => by
    simp only [wXL, XV.denL, DnL] at h ⊢
    obtain ⟨u, us', h1, h2, h3⟩ := h
    exact ⟨u, us', h1, wX_dn hl hz v u h2, wXL_dn hl hz vs us' h3⟩
end
theorem wX_env {C C' : Cx} (hl : ∀ i, C.pres i → C'.pres i ∧ C'.ρ i = C.ρ i) (hz : ∀ i t u, C.pres i → DnZ C.w (C.Z i) C.B t u → DnZ C'.w (C'.Z i) C'.B t u) {n : Nat} {e : Env} {us : List Value} (hd : DnL C (toL n e) us) : DnL C' (toL n (mapE wX e)) us := by
  refine DnL.of_at (by rw [hd.len]; exact (toL_len n _).trans (toL_len n e).symm) fun i t u ht hu => ?_
  obtain ⟨hi, rfl⟩ := toL_at ht
  obtain ⟨u', h3, h4⟩ := hd.at_ i _ (toL_get? e hi)
  rw [hu] at h3
  injection h3 with h3
  subst h3
  rw [look_map (f := wX) rfl]
  exact wX_dn hl hz _ _ h4
theorem wX_G {C C' : Cx} (hl : ∀ i, C.pres i → C'.pres i ∧ C'.ρ i = C.ρ i) (hz : ∀ i t u, C.pres i → DnZ C.w (C.Z i) C.B t u → DnZ C'.w (C'.Z i) C'.B t u) : ∀ {gs : Frames} {us : List Value}, DnL C (denG gs) us → DnL C' (denG (mapG wX gs)) us
  | [], us, h => by simp only [denG, mapG, DnL] at h ⊢; exact h
  | (n, e) :: r, us, h => by
    simp only [denG, mapG] at h ⊢
    obtain ⟨u1, u2, rfl, h1, h2⟩ := DnL.split h
    exact DnL.append (wX_env hl hz h1) (wX_G hl hz h2)
def anys : List (List TV) → List (List TV) := List.map fun c => List.replicate c.length .any
theorem nl_anys (els : List (List TV)) : NlLL (anys els) := .map fun c _ => .of_all fun t ht => by
  obtain ⟨_, rfl⟩ := List.mem_replicate.1 ht
  exact ⟨fun _ => rfl, fun _ _ => rfl⟩
theorem anys_dn {C C' : Cx} : ∀ {els : List (List TV)} {css : List (List Value)}, DnLL C els css → DnLL C' (anys els) css
  | [], css, h => by simp only [anys, List.map_nil, DnLL] at h ⊢; exact h
  | c :: els, css, h => by
    simp only [anys, List.map_cons, DnLL] at h ⊢
    obtain ⟨u, us, h1, h2, h3⟩ := h
    exact ⟨u, us, h1, DnL.anys _ _ h2.len, anys_dn h3⟩
/-- What local blocks still hold. -/
def wB : XLB → XLB
  | .none => .none
  | .cells t cs => .cells t (wXL cs)
  | .row e sz els _ => .row e sz (anys els) (nl_anys els)
  | .ext x => .ext x
def wBs {Y : Type} (ds : List (Nat × (Y → List XV))) (y : Y) (i : Nat) (b : XLB) : XLB := match b with
  | .cells t cs => match dsL ds i with
    | some V => .cells t (V y)
    | none => wB (.cells t cs)
  | b => wB b
def wHs {Y : Type} (ds : List (Nat × (Y → List XV))) (y : Y) : Nat → List XLB → List XLB
  | _, [] => []
  | i, b :: r => wBs ds y i b :: wHs ds y (i + 1) r
def wHK {Y : Type} (ds : List (Nat × (Y → List XV))) (y : Y) : Nat → List XLB → (List XLB → Prop) → Prop
  | _, [], k => k []
  | i, b :: r, k => wHK ds y (i + 1) r fun r' => forceB (wBs ds y i b) fun b' => k (b' :: r')
theorem wHK_ok {Y : Type} {ds : List (Nat × (Y → List XV))} {y : Y} : ∀ {i : Nat} {h : List XLB} {k : List XLB → Prop}, wHK ds y i h k → k (wHs ds y i h)
  | _, [], _, hh => hh
  | i, b :: r, k, hh => forceB_ok (k := fun b' => k (b' :: wHs ds y (i + 1) r)) (wHK_ok (i := i + 1) (h := r) (k := fun r' => forceB (wBs ds y i b) fun b' => k (b' :: r')) hh)
theorem wHs_get {Y : Type} {ds : List (Nat × (Y → List XV))} {y : Y} : ∀ {h : List XLB} {i j : Nat}, hget (wHs ds y i h) j = wBs ds y (i + j) (hget h j)
  | [], i, j => rfl
  | b :: r, i, 0 => rfl
  | b :: r, i, j + 1 => by
    show hget (wHs ds y (i + 1) r) j = wBs ds y (i + (j + 1)) (hget r j)
    rw [wHs_get, show i + 1 + j = i + (j + 1) by omega]
section
variable {P : Program} {B : Nat} {w0 : World} {n : Nat} {e : Env} {h : List XLB} {gs : Frames}
theorem wBs_here {Y : Type} {ds : List (Nat × (Y → List XV))} {y : Y} {i : Nat} (b : XLB) : (wBs ds y i b).den.here ↔ b.den.here := by
  cases b with
  | cells t cs =>
    unfold wBs
    simp only
    cases dsL ds i <;> exact Iff.rfl
  | _ => exact Iff.rfl
theorem wBs_ext {Y : Type} {ds : List (Nat × (Y → List XV))} {y : Y} {i : Nat} (b : XLB) (x : Ext) : (wBs ds y i b).den = .ext x ↔ b.den = .ext x := by
  cases b with
  | cells t cs =>
    unfold wBs
    simp only
    cases dsL ds i <;> simp [wB, XLB.den]
  | _ => simp [wBs, wB, XLB.den]
/-- All local blocks stay where numbers were written over numbers elsewhere. -/
theorem shpW_rel {gh : List Value} {ρ : Nat → Value} {a : Act} {w w' : World} {Y : Type} (ds : List (Nat × (Y → List XV))) (ss : List (Nat × (Y → XV))) (r : Y → Prop) (hr : RelS B w0 gh ρ (xst n e h gs) a w) (hb : ShpS (cxOf B ρ (Go.Proofs.Ytmhmldpccccjbaa.hf (h.map XLB.den)) w).S B w w') (hss : (ss.all fun p => Nat.blt p.1 n) = true)
    (hbl : ∀ (C C' : Cx), ShpS C.S C.B C.w C'.w → C'.B = C.B → (∀ k, C.S k → C'.S k) → ∀ (us : Nat → List Value) (xs : Nat → Value), (∀ i t cs, hget h i = .cells t cs → DnL C (XV.denL cs) (us i)) → (∀ p ∈ ss, Dn C (look e p.1).den (xs p.1)) → ∃ y, r y ∧ (∀ i V t cs, dsL ds i = some V → hget h i = .cells t cs → DnL C' (XV.denL (V y)) (us i)) ∧ ∀ p ∈ ss, Dn C' (p.2 y).den (xs p.1)) :
    ∃ y, r y ∧ Rel B w0 ρ (Go.Proofs.Ytmhmldpccccjbaa.hf ((wHs ds y 0 h).map XLB.den)) w' ∧ DnL (cxOf B ρ (Go.Proofs.Ytmhmldpccccjbaa.hf ((wHs ds y 0 h).map XLB.den)) w') (toL n (ssE ss y ++ mapE wX e)) a.tmps.toList ∧ DnL (cxOf B ρ (Go.Proofs.Ytmhmldpccccjbaa.hf ((wHs ds y 0 h).map XLB.den)) w') (denG (mapG wX gs)) gh := by
  have R := hr.rel
  have hblk : ∀ i, ∃ us : List Value, ∀ t cs, hget h i = .cells t cs → (∃ g, ρ i = .pointer (some ⟨g, 0, none⟩) ∧ Blk w g t us.toArray ∧ B ≤ g) ∧ DnL (cxOf B ρ (Go.Proofs.Ytmhmldpccccjbaa.hf (h.map XLB.den)) w) (XV.denL cs) us := fun i => by
    cases hi : hget h i with
    | cells t cs =>
      have h2 : Go.Proofs.Ytmhmldpccccjbaa.hf (h.map XLB.den) i = .cells t (XV.denL cs) := by rw [← hget_den, hi]; rfl
      obtain ⟨g, us, q1, q2, q3, q4⟩ := R.blk i _ _ h2
      exact ⟨us, fun t' cs' e => by injection e with e1 e2; subst e1 e2; exact ⟨⟨g, q1, q2, q3⟩, q4⟩⟩
    | _ => exact ⟨[], fun t cs e => by cases e⟩
  obtain ⟨us, hus⟩ := Classical.axiomOfChoice hblk
  obtain ⟨xs, hxs⟩ : ∃ xs : Nat → Value, ∀ d (u : Value), a.tmps.toList[d]? = some u → xs d = u := ⟨fun d => (a.tmps.toList[d]?).getD .nilFunc, fun d u hu => by simp [hu]⟩
  have hssn : ∀ p ∈ ss, p.1 < n := fun p hp => Nat.blt_eq.mp (List.all_eq_true.1 hss p hp)
  obtain ⟨y, hy, hy1, hy2⟩ := hbl (cxOf B ρ (Go.Proofs.Ytmhmldpccccjbaa.hf (h.map XLB.den)) w) { cxOf B ρ (Go.Proofs.Ytmhmldpccccjbaa.hf (h.map XLB.den)) w with w := w' } hb rfl (fun k hk => hk) us xs (fun i t cs hi => (hus i t cs hi).2) (fun p hp => by
    obtain ⟨u, hu, hu2⟩ := hr.slots.at_ p.1 _ (toL_get? e (hssn p hp))
    rw [hxs _ _ hu]; exact hu2)
  have hden : ∀ i, Go.Proofs.Ytmhmldpccccjbaa.hf ((wHs ds y 0 h).map XLB.den) i = (wBs ds y i (hget h i)).den := fun i => by rw [← hget_den, wHs_get, Nat.zero_add]
  have hiff : ∀ i, (Go.Proofs.Ytmhmldpccccjbaa.hf ((wHs ds y 0 h).map XLB.den) i).here ↔ (Go.Proofs.Ytmhmldpccccjbaa.hf (h.map XLB.den) i).here := fun i => by rw [hden, wBs_here, hget_den]
  have hex : ∀ i x, Go.Proofs.Ytmhmldpccccjbaa.hf ((wHs ds y 0 h).map XLB.den) i = .ext x ↔ Go.Proofs.Ytmhmldpccccjbaa.hf (h.map XLB.den) i = .ext x := fun i x => by rw [hden, wBs_ext, hget_den]
  have hps : ∀ i k, (Go.Proofs.Ytmhmldpccccjbaa.hf ((wHs ds y 0 h).map XLB.den) i).ps (ρ i) k ↔ (Go.Proofs.Ytmhmldpccccjbaa.hf (h.map XLB.den) i).ps (ρ i) k := fun i k => ⟨fun hp => by
    obtain ⟨x, e1, h1⟩ := LB.ps_of hp
    rw [(hex i x).1 e1]; exact h1, fun hp => by
    obtain ⟨x, e1, h1⟩ := LB.ps_of hp
    rw [(hex i x).2 e1]; exact h1⟩
  have hC : cxOf B ρ (Go.Proofs.Ytmhmldpccccjbaa.hf ((wHs ds y 0 h).map XLB.den)) w' = { cxOf B ρ (Go.Proofs.Ytmhmldpccccjbaa.hf (h.map XLB.den)) w with w := w' } := by
    unfold cxOf
    have e1 : (fun i => (Go.Proofs.Ytmhmldpccccjbaa.hf ((wHs ds y 0 h).map XLB.den) i).here) = fun i => (Go.Proofs.Ytmhmldpccccjbaa.hf (h.map XLB.den) i).here := funext fun i => propext (hiff i)
    have e2 : (fun k => (∀ i, (Go.Proofs.Ytmhmldpccccjbaa.hf ((wHs ds y 0 h).map XLB.den) i).here → blkOf (ρ i) ≠ some k) ∧ ∀ i, ¬ (Go.Proofs.Ytmhmldpccccjbaa.hf ((wHs ds y 0 h).map XLB.den) i).ps (ρ i) k) = fun k => (∀ i, (Go.Proofs.Ytmhmldpccccjbaa.hf (h.map XLB.den) i).here → blkOf (ρ i) ≠ some k) ∧ ∀ i, ¬ (Go.Proofs.Ytmhmldpccccjbaa.hf (h.map XLB.den) i).ps (ρ i) k :=
      funext fun k => propext ⟨fun H => ⟨fun i hi => H.1 i ((hiff i).2 hi), fun i hp => H.2 i ((hps i k).2 hp)⟩, fun H => ⟨fun i hi => H.1 i ((hiff i).1 hi), fun i hp => H.2 i ((hps i k).1 hp)⟩⟩
    rw [e1, e2]
    congr 1
    refine funext fun i => funext fun k => propext ⟨fun H => ⟨H.1, ?_, fun j hj => H.2.2.1 j ((hiff j).2 hj), fun j hj hp => H.2.2.2 j hj ((hps j k).2 hp)⟩, fun H => ⟨H.1, ?_, fun j hj => H.2.2.1 j ((hiff j).1 hj), fun j hj hp => H.2.2.2 j hj ((hps j k).1 hp)⟩⟩
    · obtain ⟨x, e1, h1, h2⟩ := LB.zs_of H.2.1
      rw [(hex i x).1 e1]; exact ⟨h2, h1⟩
    · obtain ⟨x, e1, h1, h2⟩ := LB.zs_of H.2.1
      rw [(hex i x).2 e1]; exact ⟨h2, h1⟩
  have hl : ∀ i, (cxOf B ρ (Go.Proofs.Ytmhmldpccccjbaa.hf (h.map XLB.den)) w).pres i → ({ cxOf B ρ (Go.Proofs.Ytmhmldpccccjbaa.hf (h.map XLB.den)) w with w := w' } : Cx).pres i ∧ ({ cxOf B ρ (Go.Proofs.Ytmhmldpccccjbaa.hf (h.map XLB.den)) w with w := w' } : Cx).ρ i = (cxOf B ρ (Go.Proofs.Ytmhmldpccccjbaa.hf (h.map XLB.den)) w).ρ i := fun i hi => ⟨hi, rfl⟩
  have hz : ∀ i t u, (cxOf B ρ (Go.Proofs.Ytmhmldpccccjbaa.hf (h.map XLB.den)) w).pres i → DnZ w ((cxOf B ρ (Go.Proofs.Ytmhmldpccccjbaa.hf (h.map XLB.den)) w).Z i) B t u → DnZ w' ((cxOf B ρ (Go.Proofs.Ytmhmldpccccjbaa.hf (h.map XLB.den)) w).Z i) B t u := fun i t u _ hd => by
    refine DnZ.keep (fun k hk hlt => ⟨fun cs ty fr e1 => ?_, hk, Nat.lt_of_lt_of_le hlt hb.s.below.size⟩) (Nat.le_refl _) t u hd
    rw [hb.k k hlt fun hS => hS.2 i (by obtain ⟨x, e1, h1, _⟩ := LB.zs_of hk.2.1; rw [e1]; exact h1)]
    exact e1
  have hone : ∀ (i g : Nat), (Go.Proofs.Ytmhmldpccccjbaa.hf (h.map XLB.den) i).here → blkOf (ρ i) = some g → g < w.heap.size → w'.heap[g]? = w.heap[g]? := fun i g hi hg hlt => hb.k g hlt fun hS => hS.1 i hi hg
  refine ⟨y, hy, {
    below := R.below.trans hb.s.below
    oth := R.oth.trans hb.s.oth
    gl0 := R.gl0
    size := Nat.le_trans R.size hb.s.below.size
    ext := fun i x e1 => by
      have E := R.ext i x ((hex i x).1 e1)
      refine ⟨x.st _ _ _ E.q fun k hk => hb.k k (E.at_ k hk).2.1 fun hS => hS.2 i (by rw [(hex i x).1 e1]; exact hk), fun k hk => ?_, E.no, E.one, fun j g hj hg => E.apart j g ((hiff j).1 hj) hg, fun j k hj hk hp => E.two j k hj hk ((hps j k).1 hp)⟩
      have h1 := E.at_ k hk
      have := hb.s.below.size
      exact ⟨h1.1, by omega, h1.2.2⟩
    blk := fun i t cs hi => by
      rw [hden] at hi
      cases h2 : hget h i with
      | cells t2 cs2 =>
        rw [h2] at hi
        obtain ⟨⟨g, q1, q2, q3⟩, q4⟩ := hus i t2 cs2 h2
        have hh : (Go.Proofs.Ytmhmldpccccjbaa.hf (h.map XLB.den) i).here := by rw [← hget_den, h2]; trivial
        have hlt : g < w.heap.size := q2.lt
        have q5 : Blk w' g t2 (us i).toArray := by
          show w'.heap[g]? = _
          rw [hone i g hh (by rw [q1]; rfl) hlt]
          exact q2
        rw [hC]
        cases h1 : dsL ds i with
        | some V =>
          simp only [wBs, h1, XLB.den] at hi
          injection hi with hi1 hi2
          subst hi1 hi2
          exact ⟨g, us i, q1, q5, q3, hy1 i V t2 cs2 h1 h2⟩
        | none =>
          simp only [wBs, h1, wB, XLB.den] at hi
          injection hi with hi1 hi2
          subst hi1 hi2
          exact ⟨g, us i, q1, q5, q3, wXL_dn hl hz _ _ q4⟩
      | none => rw [h2] at hi; simp only [wBs, wB, XLB.den] at hi; cases hi
      | row _ _ _ _ => rw [h2] at hi; simp only [wBs, wB, XLB.den] at hi; cases hi
      | ext _ => rw [h2] at hi; simp only [wBs, wB, XLB.den] at hi; cases hi
    row := fun i e0 sz els hi => by
      rw [hden] at hi
      cases h2 : hget h i with
      | row e1 sz1 els1 hp1 =>
        rw [h2] at hi
        simp only [wBs, wB, XLB.den] at hi
        injection hi with hi1 hi2 hi3
        subst hi1 hi2 hi3
        have h3 : Go.Proofs.Ytmhmldpccccjbaa.hf (h.map XLB.den) i = .row e1 sz1 els1 := by rw [← hget_den, h2]; rfl
        obtain ⟨A, c, css, r1, r2, r3, r4⟩ := R.row i _ _ _ h3
        have hlen : (anys els1).length = els1.length := by simp [anys]
        rw [hlen, hC]
        refine ⟨A, c, css, r1, ?_, r3, anys_dn r4⟩
        rcases r2.2 with hn | ⟨g, cap, cur, hv, hb2, hg, hrest⟩
        · exact ⟨r2.1, .inl hn⟩
        · refine ⟨r2.1, .inr ⟨g, cap, cur, hv, hb2, ?_, hrest⟩⟩
          have hlt : g < w.heap.size := (Array.getElem?_eq_some_iff.1 hg).1
          rw [hone i g (by rw [h3]; trivial) (by rw [hv]; rfl) hlt]
          exact hg
      | none => rw [h2] at hi; simp only [wBs, wB, XLB.den] at hi; cases hi
      | cells t2 cs2 =>
        rw [h2] at hi
        cases h1 : dsL ds i <;> simp only [wBs, h1, wB, XLB.den] at hi <;> cases hi
      | ext _ => rw [h2] at hi; simp only [wBs, wB, XLB.den] at hi; cases hi
    sep := fun i j g hi hj h1 h2 => R.sep i j g ((hiff i).1 hi) ((hiff j).1 hj) h1 h2
    inj := fun i g hi h1 => Nat.lt_of_lt_of_le (R.inj i g ((hiff i).1 hi) h1) hb.s.below.size }, ?_, ?_⟩
  · rw [hC]
    refine DnL.of_at (by rw [hr.slots.len]; exact (toL_len n _).trans (toL_len n e).symm) fun i t u ht hu => ?_
    obtain ⟨hi, rfl⟩ := toL_at ht
    obtain ⟨u', h3, h4⟩ := hr.slots.at_ i _ (toL_get? e hi)
    rw [hu] at h3
    injection h3 with h3
    subst h3
    rcases ssE_look (ss := ss) (y := y) (e := mapE wX e) (d := i) with ⟨p, h5, h6, h7⟩ | h5
    · rw [h7]
      have := hy2 p h5
      rwa [h6, hxs i u hu] at this
    · rw [h5, look_map (f := wX) rfl]
      exact wX_dn hl hz _ _ h4
  · rw [hC]; exact wX_G hl hz hr.ghost
end
section
variable {P : Program} {B : Nat} {w0 : World} {T : Tab} {n : Nat} {e : Env} {h : List XLB} {gs : Frames} {K : XQ} {c : Code}
/-- `x[i] = ..` where x's bytes were made behind the mark: all local blocks stay; some boxes and slots are known by their shape behind it. -/
theorem XT.overW (O : TabOk P T) {id : Nat} {a : Code} {ops : Array Oper} (mm : Nat) {o6 o7 : Oper} {t u : TypeId} {x y z : Operand} {s6 : Nat} {ti te tu : TI} {Y : Type} (ds : List (Nat × (Y → List XV))) (ss : List (Nat × (Y → XV))) (r : Y → Prop)
    (hops : ops.toList.drop mm = [o6, o7]) (h6 : o6.guard = none ∧ o6.op = .indexAddr t x y ∧ o6.dst = some s6) (h7 : o7.guard = none ∧ o7.op = .store u (.tmp s6) z ∧ o7.dst = none) (ht : tiOf P t = some ti) (hk : ti.k = 3) (he : tiOf P ti.el = some te) (hte : te.n = 1) (hu : tiOf P u = some tu) (hun : tu.n = 1)
    (hs : Nat.blt s6 n = true) (hss : (ss.all fun p => Nat.blt p.1 n) = true)
    (hx : X P B w0 T n a e h gs fun ex e h gs => match ex with
      | .normal => XL P B w0 T n ops.toList (ops.toList.take mm) e h gs fun e1 h1 gs1 => ∃ (l : List Int) (hp : Nl (.sl true (l.map by1))) (j : Nat) (hpj : Nl (.v (.int .i64 (j : Int)))) (m : Int), xev n e1 x = .p (.sl true (l.map by1)) hp ∧ xev n e1 y = .p (.v (.int .i64 (j : Int))) hpj ∧ j < l.length ∧
          (∀ v, tev ((toL n e1).set s6 v) z = .v (.int .u8 m)) ∧
          (∀ (C C' : Cx), ShpS C.S C.B C.w C'.w → C'.B = C.B → (∀ k, C.S k → C'.S k) → ∀ (us : Nat → List Value) (xs : Nat → Value), (∀ i t cs, hget h1 i = .cells t cs → DnL C (XV.denL cs) (us i)) → (∀ p ∈ ss, Dn C (look e1 p.1).den (xs p.1)) → ∃ y, r y ∧ (∀ i V t cs, dsL ds i = some V → hget h1 i = .cells t cs → DnL C' (XV.denL (V y)) (us i)) ∧ ∀ p ∈ ss, Dn C' (p.2 y).den (xs p.1)) ∧
          ∀ y, r y → wHK ds y 0 h1 fun h2 => forceE (ssE ss y ++ mapE wX e1) fun e2 => putK n e2 (some s6) .any fun e3 => K .normal e3 h2 (mapG wX gs1)
      | ex => K ex e h gs) : XT P B w0 n (.seq a (.region id ops false)) e h gs K := ⟨fun gh Q hq => by
  refine .seq ((X_ok O hx).ok gh _ fun ex e h gs h1 => ?_)
  cases ex <;> try exact hq _ _ _ _ h1
  refine .region ?_
  rw [← List.take_append_drop mm ops.toList, hops]
  refine .cat ?_
  refine XL_ok O ops gh _ h1 fun e1 h1 gs1 hh => ?_
  obtain ⟨l, hp, j, hpj, m, g1, g2, g3, g4, g6, g7⟩ := hh
  have hsn := Nat.blt_eq.mp hs
  refine TL.overS h6 h7 ht hk he hte hu hun (by have := xev_den (n := n) (e := e1) (x := x); rw [g1] at this; exact this.symm) (by have := xev_den (n := n) (e := e1) (x := y); rw [g2] at this; exact this.symm) g3 g4 (by show s6 < (toL n e1).length; rw [toL_len]; exact hsn) ?_
  intro ρ a w w' p hr hb
  obtain ⟨y, hy, hR2, hv, hg⟩ := shpW_rel ds ss r hr hb hss g6
  obtain ⟨e', he', hk2⟩ := putK_ok (forceE_ok (k := fun e2 => putK n e2 (some s6) .any fun e3 => K .normal e3 (wHs ds y 0 h1) (mapG wX gs1)) (wHK_ok (g7 y hy)))
  refine ⟨_, ρ, hq _ _ _ _ hk2, ?_, hg, hR2, by rw [put_defers]; exact hr.defers⟩
  show DnL _ (toL n e') _
  rw [he']
  exact put_dn (dst := some s6) hv (by simp [XV.den, Dn])⟩
end
section
variable {P : Program} {B : Nat} {w0 : World} {n : Nat} {e : Env} {h : List XLB} {gs : Frames}
/-- Blocks that are taken together were written over: nothing is known of them any more. -/
theorem Rel.lessZ {w w' : World} {ρ : Nat → Value} {h : Nat → LB} {n : Nat} (R : Rel B w0 ρ h w) (hb : Below B w w') (hoth : Oth w w') (hn : h n = .ext zoneX) (hk : ∀ k, k < w.heap.size → ¬ (cxOf B ρ h w).Z n k → w'.heap[k]? = w.heap[k]?) :
    Rel B w0 ρ (updf (fun i => (h i).kp (bar n)) n .none) w' ∧ Keeps ((cxOf B ρ h w).less (bar n)) (cxOf B ρ (updf (fun i => (h i).kp (bar n)) n .none) w') := by
  have hh : ∀ i, (updf (fun i => (h i).kp (bar n)) n .none i).here → i ≠ n ∧ (h i).here := fun i hi => by
    by_cases hin : i = n
    · subst hin; rw [updf_same] at hi; exact hi.elim
    · rw [updf_ne _ _ hin] at hi; exact ⟨hin, LB.kp_here.1 hi⟩
  have hps : ∀ i k, (updf (fun i => (h i).kp (bar n)) n .none i).ps (ρ i) k → i ≠ n ∧ (h i).ps (ρ i) k := fun i k hi => by
    by_cases hin : i = n
    · subst hin; rw [updf_same] at hi; exact hi.elim
    · rw [updf_ne _ _ hin] at hi; exact ⟨hin, LB.kp_ps.1 hi⟩
  have hnot : ∀ k, (∃ i, i ≠ n ∧ ((h i).here ∧ blkOf (ρ i) = some k ∨ (h i).ps (ρ i) k)) → ¬ (cxOf B ρ h w).Z n k := fun k ⟨i, hin, hi⟩ hz => by
    rcases hi with ⟨h1, h2⟩ | h1
    · exact hz.2.2.1 i h1 h2
    · exact hz.2.2.2 i hin h1
  have KK : Keeps ((cxOf B ρ h w).less (bar n)) (cxOf B ρ (updf (fun i => (h i).kp (bar n)) n .none) w') := by
    refine ⟨fun k hS hlt => ⟨hk k hlt fun hz => ?_, ⟨fun i hi => hS.1 i (hh i hi).2, fun i hi => hS.2 i (hps i k hi).2⟩, Nat.lt_of_lt_of_le hlt hb.size⟩, Nat.le_refl _, fun i hi => ?_, fun _ _ _ _ _ ho => ho, fun i k hi hz hlt => ?_⟩
    · obtain ⟨x, e1, h1, _⟩ := LB.zs_of hz.2.1
      exact hS.2 n (by rw [e1]; exact h1)
    · obtain ⟨h1, h2'⟩ : (h i).here ∧ bar n i = true := hi
      have h2 : i ≠ n := by simpa [bar] using h2'
      exact ⟨by show (updf (fun i => (h i).kp (bar n)) n .none i).here; rw [updf_ne _ _ h2]; exact LB.kp_here.2 h1, rfl⟩
    · obtain ⟨h1, h2'⟩ : (h i).here ∧ bar n i = true := hi
      have hin : i ≠ n := by simpa [bar] using h2'
      have hpi : (h i).ps (ρ i) k := by obtain ⟨x, e1, h1, _⟩ := LB.zs_of hz.2.1; rw [e1]; exact h1
      refine ⟨hk k hlt (hnot k ⟨i, hin, .inr hpi⟩), ⟨hz.1, ?_, fun j hj => hz.2.2.1 j (hh j hj).2, fun j hj hp => hz.2.2.2 j hj (hps j k hp).2⟩, Nat.lt_of_lt_of_le hlt hb.size⟩
      show (updf (fun i => (h i).kp (bar n)) n .none i).zs (ρ i) k
      rw [updf_ne _ _ hin]
      exact LB.kp_zs.2 hz.2.1
  refine ⟨{ below := R.below.trans hb, gl0 := R.gl0, size := Nat.le_trans R.size hb.size, oth := R.oth.trans hoth, blk := fun i t cs hi => ?_, row := fun i e sz els hi => ?_, sep := fun i j g hi hj hgi hgj => R.sep i j g (hh i hi).2 (hh j hj).2 hgi hgj, inj := fun i g hi hg => Nat.lt_of_lt_of_le (R.inj i g (hh i hi).2 hg) hb.size, ext := fun i x hi => ?_ }, KK⟩
  · have hin : i ≠ n := by rintro rfl; rw [updf_same] at hi; cases hi
    rw [updf_ne _ _ hin] at hi
    cases h2 : h i with
    | cells t' cs' =>
      rw [h2] at hi
      simp only [LB.kp, LB.cells.injEq] at hi
      obtain ⟨rfl, rfl⟩ := hi
      obtain ⟨g, vs, h3, h4, h5, h6⟩ := R.blk i _ _ h2
      refine ⟨g, vs, h3, ?_, h5, DnL.keep KK _ _ (DnL.kp (bar n) _ _ h6)⟩
      show w'.heap[g]? = _
      rw [hk g h4.lt (hnot g ⟨i, hin, .inl ⟨by rw [h2]; trivial, by rw [h3]; rfl⟩⟩)]
      exact h4
    | none => rw [h2] at hi; cases hi
    | row _ _ _ => rw [h2] at hi; cases hi
    | ext _ => rw [h2] at hi; cases hi
  · have hin : i ≠ n := by rintro rfl; rw [updf_same] at hi; cases hi
    rw [updf_ne _ _ hin] at hi
    cases h2 : h i with
    | row e' sz' els' =>
      rw [h2] at hi
      simp only [LB.kp, LB.row.injEq] at hi
      obtain ⟨rfl, rfl, rfl⟩ := hi
      obtain ⟨A, c, css, r1, r2, r3, r4⟩ := R.row i _ _ _ h2
      rw [kpLL_len]
      refine ⟨A, c, css, r1, ?_, r3, DnLL.keep KK _ _ (DnLL.kp (bar n) _ _ r4)⟩
      rcases r2.2 with hv | ⟨g, cap, cur, hv, hb2, hg, hrest⟩
      · exact ⟨r2.1, .inl hv⟩
      · refine ⟨r2.1, .inr ⟨g, cap, cur, hv, hb2, ?_, hrest⟩⟩
        rw [hk g (Array.getElem?_eq_some_iff.1 hg).1 (hnot g ⟨i, hin, .inl ⟨by rw [h2]; trivial, by rw [hv]; rfl⟩⟩)]
        exact hg
    | none => rw [h2] at hi; cases hi
    | cells _ _ => rw [h2] at hi; cases hi
    | ext _ => rw [h2] at hi; cases hi
  · have hin : i ≠ n := by rintro rfl; rw [updf_same] at hi; cases hi
    rw [updf_ne _ _ hin] at hi
    have hi2 : h i = .ext x := LB.kp_ext hi
    have E := R.ext i x hi2
    refine ⟨x.st _ _ _ E.q fun k hk2 => hk k (E.at_ k hk2).2.1 (hnot k ⟨i, hin, .inr (by rw [hi2]; exact hk2)⟩), fun k hk2 => ?_, E.no, E.one, fun j g hj hg => E.apart j g (hh j hj).2 hg, fun j k hj hk2 hp => E.two j k hj hk2 (hps j k hp).2⟩
    have h1 := E.at_ k hk2
    have := hb.size
    exact ⟨h1.1, by omega, h1.2.2⟩
/-- The trees of values that lie in the blocks that the local block i takes. -/
def unzP : (t : TV) → Option TV
  | .v x => some (.v x)
  | .nil_ => some (.sl true [])
  | .any | .agg _ | .tup _ | .fn _ _ | .ptr _ _ | .row _ | .sl _ _ | .eptr _ | .osl _ _ _ | .z _ _ | .win _ _ _ => none
mutual
def unzX (i : Nat) : XV → Option TV
  | .p t _ => unzP t
  | .z j t _ => match Nat.beq j i with
    | true => some t
    | false => none
  | .ag vs => match unzXL i vs with
    | some ts => some (.agg ts)
    | none => none
  | .any | .row _ | .ptr _ _ | .rp _ _ _ _ | .tu _ | .fu _ _ | .ow _ _ _ _ | .pin _ _ _ | .win _ _ _ => none
def unzXL (i : Nat) : List XV → Option (List TV)
  | [] => some []
  | v :: vs => match unzX i v with
    | some t => match unzXL i vs with
      | some ts => some (t :: ts)
      | none => none
    | none => none
end
/-- The blocks that a local block takes, and they alone. -/
def zCx (C : Cx) (i : Nat) : Cx := ⟨C.w, C.Z i, C.B, fun _ => .nilFunc, fun _ => False, fun _ _ _ _ _ => False, fun _ _ => False⟩
mutual
theorem unz_dn {C : Cx} {i : Nat} : ∀ (v : XV) (t : TV) (u : Value), unzX i v = some t → Dn C v.den u → Dn (zCx C i) t u
  | .p t0 hp, t, u, e, h => by
    cases t0 <;> simp only [unzX, unzP, Option.some.injEq, reduceCtorEq] at e
    · subst e; simp only [XV.den, Dn] at h ⊢; exact h
    · subst e
      simp only [XV.den, Dn] at h ⊢
      exact ⟨none, 0, [], 0, h, Nat.le_refl _, by simp [maxLen], by simp, by simp, by simp [DnLL], fun ad ha => by cases ha⟩
  | .z j t0 hp, t, u, e, h => by
    simp only [unzX] at e
    split at e
    · rename_i hb
      injection e with e
      subst e
      obtain rfl := Nat.eq_of_beq_eq_true hb
      simp only [XV.den, Dn] at h
      exact DnZ.dn (C := zCx C j) (fun k hk _ => hk) (Nat.le_refl _) _ _ h.2
    · cases e
  | .ag vs, t, u, e, h => by
    simp only [unzX] at e
    split at e
    · rename_i ts hts
      injection e with e
      subst e
      simp only [XV.den, Dn] at h ⊢
      obtain ⟨us, h1, h2⟩ := h
      exact ⟨us, h1, unzL_dn vs ts us hts h2⟩
    · cases e
  | .any, t, u, e, _ | .row _, t, u, e, _ | .ptr _ _, t, u, e, _ | .rp _ _ _ _, t, u, e, _ | .tu _, t, u, e, _ | .fu _ _, t, u, e, _ | .ow _ _ _ _, t, u, e, _ | .pin _ _ _, t, u, e, _ | .win _ _ _, t, u, e, _ => by simp [unzX] at e
theorem unzL_dn {C : Cx} {i : Nat} : ∀ (vs : List XV) (ts : List TV) (us : List Value), unzXL i vs = some ts → DnL C (XV.denL vs) us → DnL (zCx C i) ts us
  | [], ts, us, e, h => by
    simp only [unzXL, Option.some.injEq] at e
    subst e
    simp only [XV.denL, DnL] at h ⊢
    exact h
  | v :: vs, ts, us, e, h => by
    simp only [unzXL] at e
    split at e
    · rename_i t ht
      split at e
      · rename_i ts' hts
        injection e with e
        subst e
        simp only [XV.denL, DnL] at h ⊢
        obtain ⟨u, us', h1, h2, h3⟩ := h
        exact ⟨u, us', h1, unz_dn v t u ht h2, unzL_dn vs ts' us' hts h3⟩
      · cases e
    · cases e
end
def isZone (b : XLB) : Prop := match b with
  | .ext x => x = zoneX
  | _ => False
theorem isZone_den {b : XLB} (h : isZone b) : b.den = .ext zoneX := by
  unfold isZone at h
  split at h
  · subst h; rfl
  · exact h.elim
/-- A call that writes, numbers over numbers, over blocks that are taken together, and over nothing else. -/
theorem WCall.spoilZ (i : Nat) {f : FuncId} {vs : List XV} {dst : Option Tmp} {k : KK} {ts : List TV} (hs : SpL P f ts) (ha : unzXL i vs = some ts) (hz : isZone (hget h i))
    (hk : turnK (kpX i) e h gs fun e' h' gs' => setK h' i .none fun h'' => putK n e' dst .any fun e'' => k e'' h'' gs') : WCall P B w0 f vs n e h gs dst k := ⟨by
  intro gh Q ops rest o cl fop cvs hg ho hcl hf hvs hdst hK ρ a w hr
  subst hdst
  refine wpList_plain hg fun K0 hK0 => ?_
  have e1 : XV.denL vs = cl.args.toList.map (tev (toL n e)) ++ XV.denL cvs := by rw [hvs, denL_map (_ ++ _), List.map_append, ← denL_map, ← denL_map, evL_den]
  have R := hr.rel
  have g1 := tev_dn hr.slots fop
  rw [show (xst n e h gs).s = toL n e from rfl, hf] at g1
  simp only [Dn] at g1
  obtain ⟨cv, g2, g3⟩ := g1
  have g4 : DnL (cxOf B ρ (Go.Proofs.Ytmhmldpccccjbaa.hf (h.map XLB.den)) w) (cl.args.toList.map (tev (toL n e)) ++ XV.denL cvs) (cl.args.toList.map a.eval ++ cv) := (eval_list _ fun x _ => tev_dn hr.slots x).append g3
  rw [← e1] at g4
  have g5 := unzL_dn _ _ _ ha g4
  have h6 := hs.2 (zCx (cxOf B ρ (Go.Proofs.Ytmhmldpccccjbaa.hf (h.map XLB.den)) w) i) _ R.size g5
  have e2 : (cl.args.map a.eval ++ cv.toArray) = (cl.args.toList.map a.eval ++ cv).toArray := by
    apply Array.ext'
    simp
  unfold Oper.wp
  rw [call_run ho hcl g2 hs.1]
  unfold Oper.upon
  rw [e2]
  refine h6.mono ?_
  rintro ex w' ⟨rfl, hb⟩
  have hzd : Go.Proofs.Ytmhmldpccccjbaa.hf (h.map XLB.den) i = .ext zoneX := by rw [← hget_den]; exact isZone_den hz
  obtain ⟨R', KK⟩ := R.lessZ hb.s.below hb.s.oth hzd hb.k
  have hil : i < (h.map XLB.den).length := hf_lt hzd (by simp)
  have hk := setK_ok (k := fun h'' => putK n _ o.dst .any fun e'' => k e'' h'' _) (turnK_ok hk)
  obtain ⟨e', he', hk⟩ := putK_ok hk
  have hl : ((h.map (mapB (kpX i))).set i .none).map XLB.den = ((h.map XLB.den).map (LB.kp (bar i))).set i .none := by rw [List.map_set, hmap_kp]; rfl
  refine hK0 _ _ (hK _ _ _ hk ρ _ _ ⟨?_, ?_, ?_, by rw [put_defers]; exact hr.defers⟩)
  · show DnL (cxOf B ρ (Go.Proofs.Ytmhmldpccccjbaa.hf (((h.map (mapB (kpX i))).set i .none).map XLB.den)) w') (toL n e') _
    rw [hl, hf_map_set hil, he', toL_kp]
    exact put_dn (DnL.keep KK _ _ (DnL.kp (bar i) _ _ hr.slots)) (by simp [XV.den, Dn])
  · show DnL (cxOf B ρ (Go.Proofs.Ytmhmldpccccjbaa.hf (((h.map (mapB (kpX i))).set i .none).map XLB.den)) w') (denG (mapG (kpX i) gs)) _
    rw [hl, hf_map_set hil, denG_kp]
    exact DnL.keep KK _ _ (DnL.kp (bar i) _ _ hr.ghost)
  · show Rel B w0 ρ (Go.Proofs.Ytmhmldpccccjbaa.hf (((h.map (mapB (kpX i))).set i .none).map XLB.den)) w'
    rw [hl, hf_map_set hil]
    exact R'⟩
end
end Go.Proofs.Ytmhmldpccccjbaa

namespace Go.Proofs.Ytmhmldpccccjbaa
open Go.RowKit
set_option linter.unusedVariables false
set_option linter.unusedSimpArgs false

/-- A value that lies all in memory made since. -/
def FrX (v : XV) : Prop := Pu v.den ∧ Fr v.den ∧ zOk v = true
def FrB (b : XLB) : Prop := match b with
  | .cells _ cs => PuL (XV.denL cs) ∧ FrL (XV.denL cs) ∧ zOkL cs = true
  | _ => False
def zsE (j : Nat) (e : Env) : List Nat → Env
  | [] => []
  | d :: r => (d, zX j (look e d)) :: zsE j e r
theorem zsE_look {j : Nat} {e b : Env} : ∀ {ss : List Nat} (d : Nat), (d ∈ ss ∧ look (zsE j e ss ++ b) d = zX j (look e d)) ∨ look (zsE j e ss ++ b) d = look b d
  | [], d => .inr rfl
  | k :: r, d => by
    by_cases hd : k = d
    · subst hd
      exact .inl ⟨by simp, look_same (zsE j e r ++ b) k (zX j (look e k))⟩
    · have e1 : Go.Proofs.Ytmhmldpccccjbaa.look (zsE j e (k :: r) ++ b) d = Go.Proofs.Ytmhmldpccccjbaa.look (zsE j e r ++ b) d := look_ne (zsE j e r ++ b) (zX j (look e k)) hd
      rw [e1]
      rcases zsE_look (ss := r) d with ⟨h1, h2⟩ | h1
      · exact .inl ⟨by simp [h1], h2⟩
      · exact .inr h1
def zBs (j : Nat) (bs : List Nat) (i : Nat) (b : XLB) : XLB := match memN i bs with
  | true => match b with
    | .cells t cs => .cells t (zXL j cs)
    | b => wB b
  | false => wB b
def zHs (j : Nat) (bs : List Nat) : Nat → List XLB → List XLB
  | _, [] => [.ext zoneX]
  | i, b :: r => zBs j bs i b :: zHs j bs (i + 1) r
def zHK (j : Nat) (bs : List Nat) : Nat → List XLB → (List XLB → Prop) → Prop
  | _, [], k => k [.ext zoneX]
  | i, b :: r, k => zHK j bs (i + 1) r fun r' => forceB (zBs j bs i b) fun b' => k (b' :: r')
theorem zHK_ok {j : Nat} {bs : List Nat} : ∀ {i : Nat} {h : List XLB} {k : List XLB → Prop}, zHK j bs i h k → k (zHs j bs i h)
  | _, [], _, hh => hh
  | i, b :: r, k, hh => forceB_ok (k := fun b' => k (b' :: zHs j bs (i + 1) r)) (zHK_ok (i := i + 1) (h := r) (k := fun r' => forceB (zBs j bs i b) fun b' => k (b' :: r')) hh)
theorem zHs_get {j : Nat} {bs : List Nat} : ∀ {h : List XLB} {i q : Nat}, hget (zHs j bs i h) q = if q < h.length then zBs j bs (i + q) (hget h q) else if q = h.length then .ext zoneX else .none
  | [], i, 0 => rfl
  | [], i, q + 1 => by simp [zHs, hget]
  | b :: r, i, 0 => by simp [zHs, hget]
  | b :: r, i, q + 1 => by
    show hget (zHs j bs (i + 1) r) q = _
    rw [zHs_get, show i + 1 + q = i + (q + 1) by omega]
    simp only [List.length_cons, Nat.add_lt_add_iff_right, Nat.add_right_cancel_iff]
    rfl
theorem zBs_here {j : Nat} {bs : List Nat} {i : Nat} (b : XLB) : (zBs j bs i b).den.here ↔ b.den.here := by
  unfold zBs
  cases memN i bs <;> cases b <;> exact Iff.rfl
theorem zBs_ext {j : Nat} {bs : List Nat} {i : Nat} (b : XLB) (x : Ext) : (zBs j bs i b).den = .ext x ↔ b.den = .ext x := by
  unfold zBs
  cases memN i bs <;> cases b <;> simp [wB, XLB.den]
theorem zBs_no {j : Nat} {bs : List Nat} {i : Nat} {b : XLB} (hb : isCells b = false) : zBs j bs i b = wB b := by
  unfold zBs
  cases memN i bs <;> cases b <;> first | rfl | (cases hb)
theorem DnL.frz {C : Cx} {S : Nat → Prop} {B : Nat} (hS : ∀ k, C.S k → C.B ≤ k → k < C.w.heap.size → S k) (hB : B ≤ C.B) (ts : List TV) (us : List Value) (hp : PuL ts) (hf : FrL ts) (h : DnL C ts us) : DnZL C.w S B ts us := by
  have h1 := DnL.fr (C := C) (C' := { C with S := fun k => C.S k ∧ C.B ≤ k }) rfl (Nat.le_refl _) (fun k h1 h2 _ => ⟨h1, h2⟩) ts us hf h
  exact DnL.toZ (C := { C with S := fun k => C.S k ∧ C.B ≤ k }) (fun k hk hl => hS k hk.1 hk.2 hl) hB ts us hp h1
section
variable {C C' : Cx} {j : Nat}
mutual
theorem zt_fr (hw : C'.w = C.w) (hn : C'.pres j) (hS : ∀ k, C.S k → C.B ≤ k → k < C.w.heap.size → C'.Z j k) (hB : C'.B ≤ C.B) : ∀ (t : TV) (u : Value), Pu t → Fr t → Dn C t u → Dn C' (zt j t) u
  | .any, _, _, _, _ => by simp [Dn, Go.Proofs.Ytmhmldpccccjbaa.zt]
  | .v x, u, _, _, h => by simp only [Dn, Go.Proofs.Ytmhmldpccccjbaa.zt] at h ⊢; exact h
  | .nil_, u, _, _, h => by simp only [Dn, Go.Proofs.Ytmhmldpccccjbaa.zt] at h ⊢; exact h
  | .agg ts, u, p, f, h => by
    simp only [Dn, Go.Proofs.Ytmhmldpccccjbaa.zt, Pu, Fr] at h p f ⊢
    obtain ⟨vs, h1, h2⟩ := h
    exact ⟨vs, h1, ztL_fr hw hn hS hB ts vs p f h2⟩
  | .tup ts, u, p, f, h => by
    simp only [Dn, Go.Proofs.Ytmhmldpccccjbaa.zt, Pu, Fr] at h p f ⊢
    obtain ⟨vs, h1, h2⟩ := h
    exact ⟨vs, h1, ztL_fr hw hn hS hB ts vs p f h2⟩
  | .fn g ts, u, p, f, h => by
    have h1 := DnL.frz (C := C) (S := C'.Z j) (B := C'.B) hS hB [.fn g ts] [u] (by simp only [PuL]; exact ⟨p, trivial⟩) (by simp only [FrL]; exact ⟨f, trivial⟩) (DnL.cons h DnL.nil)
    simp only [Go.Proofs.Ytmhmldpccccjbaa.zt]
    simp only [Dn, hw]
    simp only [DnZL] at h1
    obtain ⟨u', us', e, h2, _⟩ := h1
    injection e with e
    subst e
    exact ⟨hn, h2⟩
  | .sl b els, u, p, f, h => by
    have h1 := DnL.frz (C := C) (S := C'.Z j) (B := C'.B) hS hB [.sl b els] [u] (by simp only [PuL]; exact ⟨p, trivial⟩) (by simp only [FrL]; exact ⟨f, trivial⟩) (DnL.cons h DnL.nil)
    simp only [Go.Proofs.Ytmhmldpccccjbaa.zt]
    simp only [Dn, hw]
    simp only [DnZL] at h1
    obtain ⟨u', us', e, h2, _⟩ := h1
    injection e with e
    subst e
    exact ⟨hn, h2⟩
  | .eptr _, u, _, f, _ => by simp only [Fr] at f
  | .ptr i off, u, p, _, _ => by simp only [Pu] at p
  | .row i, u, p, _, _ => by simp only [Pu] at p
  | .osl e sz els, u, p, _, _ => by simp only [Pu] at p
  | .z _ _, u, p, _, _ => by simp only [Pu] at p
  | .win _ _ _, u, p, _, _ => by simp only [Pu] at p
theorem ztL_fr (hw : C'.w = C.w) (hn : C'.pres j) (hS : ∀ k, C.S k → C.B ≤ k → k < C.w.heap.size → C'.Z j k) (hB : C'.B ≤ C.B) : ∀ (ts : List TV) (us : List Value), PuL ts → FrL ts → DnL C ts us → DnL C' (ztL j ts) us
  | [], us, _, _, h => by simp only [DnL, ztL] at h ⊢; exact h
  | t :: ts, us, p, f, h => by
    simp only [DnL, ztL, PuL, FrL] at h p f ⊢
    obtain ⟨u, us', h1, h2, h3⟩ := h
    exact ⟨u, us', h1, zt_fr hw hn hS hB t u p.1 f.1 h2, ztL_fr hw hn hS hB ts us' p.2 f.2 h3⟩
end
end
section
variable {P : Program} {B : Nat} {w0 : World} {T : Tab} {n : Nat} {e : Env} {h : List XLB} {gs : Frames} {K : XQ} {c : Code}
/-- All that was made since, and is no local block's, is taken together: some slots and boxes lie in it; of the others nothing but what is plain, or a local block's, is told any more. -/
theorem XT.zall (ss bs : List Nat) (hss : (ss.all fun d => Nat.blt d n) = true) (hfr : ∀ d ∈ ss, FrX (look e d)) (hfb : ∀ i ∈ bs, FrB (hget h i))
    (hx : lenK h fun j => zHK j bs 0 h fun h' => forceE (zsE j e ss ++ mapE wX e) fun e' => XT P B w0 n c e' h' (mapG wX gs) K) : XT P B w0 n c e h gs K := ⟨fun gh Q hq => by
  have hx := forceE_ok (k := fun e' => XT P B w0 n c e' (zHs h.length bs 0 h) (mapG wX gs) K) (zHK_ok (lenK_ok hx))
  refine TW.le (hx.ok gh Q hq) fun ρ a w hr => ?_
  have R := hr.rel
  classical
  obtain ⟨l, hl⟩ : ∃ l : List Nat, ∀ k, k ∈ l ↔ k < w.heap.size ∧ B ≤ k ∧ (cxOf B ρ (Go.Proofs.Ytmhmldpccccjbaa.hf (h.map XLB.den)) w).S k := ⟨(List.range w.heap.size).filter fun k => decide (B ≤ k ∧ (cxOf B ρ (Go.Proofs.Ytmhmldpccccjbaa.hf (h.map XLB.den)) w).S k), fun k => by simp [List.mem_filter]⟩
  obtain ⟨j, hj⟩ : ∃ j, h.length = j := ⟨_, rfl⟩
  have hnone : Go.Proofs.Ytmhmldpccccjbaa.hf (h.map XLB.den) j = .none := hf_ge (by simp [hj])
  have hden : ∀ i, Go.Proofs.Ytmhmldpccccjbaa.hf ((zHs h.length bs 0 h).map XLB.den) i = if i < j then (zBs j bs i (hget h i)).den else if i = j then .ext zoneX else .none := fun i => by
    rw [← hget_den, zHs_get, Nat.zero_add, hj]
    split
    · rfl
    · split <;> rfl
  have hge : ∀ i, ¬ i < j → Go.Proofs.Ytmhmldpccccjbaa.hf (h.map XLB.den) i = .none := fun i hi => hf_ge (by simp [hj]; omega)
  have hlow : ∀ i, (Go.Proofs.Ytmhmldpccccjbaa.hf (h.map XLB.den) i).here → i < j := fun i hi => by
    refine Classical.byContradiction fun hn => ?_
    rw [hge i hn] at hi
    exact hi
  have hhere : ∀ i, (Go.Proofs.Ytmhmldpccccjbaa.hf (h.map XLB.den) i).here → i ≠ j ∧ (Go.Proofs.Ytmhmldpccccjbaa.hf ((zHs h.length bs 0 h).map XLB.den) i).here := fun i hi => by
    have := hlow i hi
    refine ⟨by omega, ?_⟩
    rw [hden, if_pos this, zBs_here, hget_den]; exact hi
  have hback : ∀ i, i ≠ j → (Go.Proofs.Ytmhmldpccccjbaa.hf ((zHs h.length bs 0 h).map XLB.den) i).here → (Go.Proofs.Ytmhmldpccccjbaa.hf (h.map XLB.den) i).here := fun i hij hi => by
    rw [hden] at hi
    split at hi
    · rw [zBs_here, hget_den] at hi; exact hi
    · exact hi.elim
  have hext : ∀ i x, i ≠ j → (Go.Proofs.Ytmhmldpccccjbaa.hf ((zHs h.length bs 0 h).map XLB.den) i = .ext x ↔ Go.Proofs.Ytmhmldpccccjbaa.hf (h.map XLB.den) i = .ext x) := fun i x hij => by
    rw [hden]
    by_cases hlt : i < j
    · rw [if_pos hlt, zBs_ext, hget_den]
    · rw [if_neg hlt, if_neg hij, hge i hlt]
  have hj2 : Go.Proofs.Ytmhmldpccccjbaa.hf ((zHs h.length bs 0 h).map XLB.den) j = .ext zoneX := by rw [hden, if_neg (Nat.lt_irrefl _), if_pos rfl]
  have hps : ∀ i k, i ≠ j → ((Go.Proofs.Ytmhmldpccccjbaa.hf ((zHs h.length bs 0 h).map XLB.den) i).ps (updf ρ j (zl l) i) k ↔ (Go.Proofs.Ytmhmldpccccjbaa.hf (h.map XLB.den) i).ps (ρ i) k) := fun i k hij => by
    rw [updf_ne _ _ hij]
    exact ⟨fun hp => by
      obtain ⟨x, e1, h1⟩ := LB.ps_of hp
      rw [(hext i x hij).1 e1]; exact h1, fun hp => by
      obtain ⟨x, e1, h1⟩ := LB.ps_of hp
      rw [(hext i x hij).2 e1]; exact h1⟩
  have hpj : ∀ k, zoneX.p (zl l) k → k ∈ l := fun k hk => by
    rcases hk with ⟨lo, hi, e1, _⟩ | ⟨l', e1, hm⟩
    · cases e1
    · rw [zl_inj e1]; exact hm
  have hloc : ∀ i, (cxOf B ρ (Go.Proofs.Ytmhmldpccccjbaa.hf (h.map XLB.den)) w).pres i → (cxOf B (updf ρ j (zl l)) (Go.Proofs.Ytmhmldpccccjbaa.hf ((zHs h.length bs 0 h).map XLB.den)) w).pres i ∧ (cxOf B (updf ρ j (zl l)) (Go.Proofs.Ytmhmldpccccjbaa.hf ((zHs h.length bs 0 h).map XLB.den)) w).ρ i = (cxOf B ρ (Go.Proofs.Ytmhmldpccccjbaa.hf (h.map XLB.den)) w).ρ i := fun i hi => ⟨(hhere i hi).2, updf_ne _ _ (hhere i hi).1⟩
  have hZ : ∀ i k, (cxOf B ρ (Go.Proofs.Ytmhmldpccccjbaa.hf (h.map XLB.den)) w).pres i → (cxOf B ρ (Go.Proofs.Ytmhmldpccccjbaa.hf (h.map XLB.den)) w).Z i k → (cxOf B (updf ρ j (zl l)) (Go.Proofs.Ytmhmldpccccjbaa.hf ((zHs h.length bs 0 h).map XLB.den)) w).Z i k := fun i k hi hz => by
    have hij := (hhere i hi).1
    refine ⟨by rw [updf_ne _ _ hij]; exact hz.1, ?_, fun q hq => ?_, fun q hq hp => ?_⟩
    · obtain ⟨x, e1, h1, h2⟩ := LB.zs_of hz.2.1
      rw [(hext i x hij).2 e1, updf_ne _ _ hij]
      exact ⟨h2, h1⟩
    · by_cases hqj : q = j
      · subst hqj; rw [updf_same]; intro e1; cases e1
      · rw [updf_ne _ _ hqj]; exact hz.2.2.1 q (hback q hqj hq)
    · by_cases hqj : q = j
      · subst hqj
        rw [hj2, updf_same] at hp
        have hS := ((hl k).1 (hpj k hp)).2.2
        obtain ⟨x, e1, h1, _⟩ := LB.zs_of hz.2.1
        exact hS.2 i (by rw [e1]; exact h1)
      · exact hz.2.2.2 q hq ((hps q k hqj).1 hp)
  have hz : ∀ i t u, (cxOf B ρ (Go.Proofs.Ytmhmldpccccjbaa.hf (h.map XLB.den)) w).pres i → DnZ w ((cxOf B ρ (Go.Proofs.Ytmhmldpccccjbaa.hf (h.map XLB.den)) w).Z i) B t u → DnZ w ((cxOf B (updf ρ j (zl l)) (Go.Proofs.Ytmhmldpccccjbaa.hf ((zHs h.length bs 0 h).map XLB.den)) w).Z i) B t u := fun i t u hi hd =>
    DnZ.keep (fun k hk hlt => ⟨fun _ _ _ e1 => e1, hZ i k hi hk, hlt⟩) (Nat.le_refl _) t u hd
  have hZj : ∀ k, (cxOf B ρ (Go.Proofs.Ytmhmldpccccjbaa.hf (h.map XLB.den)) w).S k → B ≤ k → k < w.heap.size → (cxOf B (updf ρ j (zl l)) (Go.Proofs.Ytmhmldpccccjbaa.hf ((zHs h.length bs 0 h).map XLB.den)) w).Z j k := fun k hS hB hlt => by
    refine ⟨by rw [updf_same]; rfl, ?_, fun q hq => ?_, fun q hq hp => ?_⟩
    · rw [hj2, updf_same]
      exact ⟨rfl, .inr ⟨l, rfl, (hl k).2 ⟨hlt, hB, hS⟩⟩⟩
    · by_cases hqj : q = j
      · subst hqj; rw [updf_same]; intro e1; cases e1
      · rw [updf_ne _ _ hqj]; exact hS.1 q (hback q hqj hq)
    · exact hS.2 q ((hps q k hq).1 hp)
  have hpres : (cxOf B (updf ρ j (zl l)) (Go.Proofs.Ytmhmldpccccjbaa.hf ((zHs h.length bs 0 h).map XLB.den)) w).pres j := by
    show (Go.Proofs.Ytmhmldpccccjbaa.hf ((zHs h.length bs 0 h).map XLB.den) j).here
    rw [hj2]; trivial
  have kin : ∀ v u, FrX v → Dn (cxOf B ρ (Go.Proofs.Ytmhmldpccccjbaa.hf (h.map XLB.den)) w) v.den u → Dn (cxOf B (updf ρ j (zl l)) (Go.Proofs.Ytmhmldpccccjbaa.hf ((zHs h.length bs 0 h).map XLB.den)) w) (zX j v).den u := fun v u hv hd => by
    rw [zX_den j v hv.2.2]
    exact zt_fr (C := cxOf B ρ (Go.Proofs.Ytmhmldpccccjbaa.hf (h.map XLB.den)) w) (C' := cxOf B (updf ρ j (zl l)) (Go.Proofs.Ytmhmldpccccjbaa.hf ((zHs h.length bs 0 h).map XLB.den)) w) rfl hpres hZj (Nat.le_refl _) _ _ hv.1 hv.2.1 hd
  have hR : Rel B w0 (updf ρ j (zl l)) (Go.Proofs.Ytmhmldpccccjbaa.hf ((zHs h.length bs 0 h).map XLB.den)) w := by
    refine { below := R.below, gl0 := R.gl0, size := R.size, oth := R.oth, blk := fun i t cs hi => ?_, row := fun i e0 sz els hi => ?_, sep := fun i q g hi hq hgi hgq => ?_, inj := fun i g hi hg => ?_, ext := fun i x hi => ?_ }
    · rw [hden] at hi
      split at hi
      · rename_i hlt
        cases h2 : hget h i with
        | cells t2 cs2 =>
          have h3 : Go.Proofs.Ytmhmldpccccjbaa.hf (h.map XLB.den) i = .cells t2 (XV.denL cs2) := by rw [← hget_den, h2]; rfl
          obtain ⟨g, us, q1, q2, q3, q4⟩ := R.blk i _ _ h3
          rw [h2] at hi
          have hij : i ≠ j := by omega
          cases hm : memN i bs with
          | true =>
            simp only [zBs, hm, XLB.den] at hi
            injection hi with hi1 hi2
            subst hi1 hi2
            have hf2 := hfb i (memN_iff.1 hm)
            rw [h2] at hf2
            refine ⟨g, us, by rw [updf_ne _ _ hij]; exact q1, q2, q3, ?_⟩
            rw [zXL_den j cs2 hf2.2.2]
            exact ztL_fr (C := cxOf B ρ (Go.Proofs.Ytmhmldpccccjbaa.hf (h.map XLB.den)) w) (C' := cxOf B (updf ρ j (zl l)) (Go.Proofs.Ytmhmldpccccjbaa.hf ((zHs h.length bs 0 h).map XLB.den)) w) rfl hpres hZj (Nat.le_refl _) _ _ hf2.1 hf2.2.1 q4
          | false =>
            simp only [zBs, hm, wB, XLB.den] at hi
            injection hi with hi1 hi2
            subst hi1 hi2
            exact ⟨g, us, by rw [updf_ne _ _ hij]; exact q1, q2, q3, wXL_dn hloc hz _ _ q4⟩
        | none => rw [h2, zBs_no rfl] at hi; simp only [wB, XLB.den] at hi; cases hi
        | row _ _ _ _ => rw [h2, zBs_no rfl] at hi; simp only [wB, XLB.den] at hi; cases hi
        | ext _ => rw [h2, zBs_no rfl] at hi; simp only [wB, XLB.den] at hi; cases hi
      · split at hi <;> cases hi
    · rw [hden] at hi
      split at hi
      · rename_i hlt
        have hij : i ≠ j := by omega
        cases h2 : hget h i with
        | row e1 sz1 els1 hp1 =>
          have h3 : Go.Proofs.Ytmhmldpccccjbaa.hf (h.map XLB.den) i = .row e1 sz1 els1 := by rw [← hget_den, h2]; rfl
          obtain ⟨A, c, css, r1, r2, r3, r4⟩ := R.row i _ _ _ h3
          have hi' : (LB.row e1 sz1 (anys els1)) = .row e0 sz els := by
            rw [← hi, h2]; unfold zBs; cases memN i bs <;> rfl
          injection hi' with hi1 hi2 hi3
          subst hi1 hi2 hi3
          have hlen : (anys els1).length = els1.length := by simp [anys]
          rw [hlen, updf_ne _ _ hij]
          exact ⟨A, c, css, r1, r2, r3, anys_dn r4⟩
        | none => rw [h2, zBs_no rfl] at hi; simp only [wB, XLB.den] at hi; cases hi
        | cells _ _ => rw [h2] at hi; cases hm : memN i bs <;> simp only [zBs, hm, wB, XLB.den] at hi <;> cases hi
        | ext _ => rw [h2, zBs_no rfl] at hi; simp only [wB, XLB.den] at hi; cases hi
      · split at hi <;> cases hi
    · by_cases hij : i = j
      · subst hij; rw [updf_same] at hgi; cases hgi
      · by_cases hqj : q = j
        · subst hqj; rw [updf_same] at hgq; cases hgq
        · rw [updf_ne _ _ hij] at hgi
          rw [updf_ne _ _ hqj] at hgq
          exact R.sep i q g (hback i hij hi) (hback q hqj hq) hgi hgq
    · by_cases hij : i = j
      · subst hij; rw [updf_same] at hg; cases hg
      · rw [updf_ne _ _ hij] at hg
        exact R.inj i g (hback i hij hi) hg
    · by_cases hij : i = j
      · subst hij
        rw [hj2] at hi
        injection hi with hi
        subst hi
        refine ⟨trivial, fun k hk => ?_, by rw [updf_same]; rfl, by rw [updf_same]; rfl, fun q g hq hg hk => ?_, fun q k hq hk hp => ?_⟩
        · rw [updf_same] at hk
          obtain ⟨h1, h2, _⟩ := (hl k).1 (hpj k hk)
          exact ⟨h2, h1, fun e1 => by cases e1⟩
        · rw [updf_same] at hk
          have hS := ((hl g).1 (hpj g hk)).2.2
          by_cases hqj : q = i
          · subst hqj; rw [updf_same] at hg; cases hg
          · rw [updf_ne _ _ hqj] at hg
            exact hS.1 q (hback q hqj hq) hg
        · rw [updf_same] at hk
          have hS := ((hl k).1 (hpj k hk)).2.2
          exact hS.2 q ((hps q k hq).1 hp)
      · have hi2 := (hext i x hij).1 hi
        have E := R.ext i x hi2
        refine ⟨by rw [updf_ne _ _ hij]; exact E.q, fun k hk => ?_, by rw [updf_ne _ _ hij]; exact E.no, by rw [updf_ne _ _ hij]; exact E.one, fun q g hq hg => ?_, fun q k hq hk hp => ?_⟩
        · rw [updf_ne _ _ hij] at hk; exact E.at_ k hk
        · rw [updf_ne _ _ hij]
          by_cases hqj : q = j
          · subst hqj; rw [updf_same] at hg; cases hg
          · rw [updf_ne _ _ hqj] at hg; exact E.apart q g (hback q hqj hq) hg
        · rw [updf_ne _ _ hij] at hk
          by_cases hqj : q = j
          · subst hqj
            rw [hj2, updf_same] at hp
            have hS := ((hl k).1 (hpj k hp)).2.2
            exact hS.2 i (by rw [hi2]; exact hk)
          · exact E.two q k hq hk ((hps q k hqj).1 hp)
  refine ⟨updf ρ j (zl l), ?_, wX_G hloc hz hr.ghost, hR, hr.defers⟩
  show DnL (cxOf B (updf ρ j (zl l)) (Go.Proofs.Ytmhmldpccccjbaa.hf ((zHs h.length bs 0 h).map XLB.den)) w) (toL n (zsE h.length e ss ++ mapE wX e)) _
  refine DnL.of_at (by rw [hr.slots.len]; exact (toL_len n _).trans (toL_len n e).symm) fun i t u ht hu => ?_
  obtain ⟨hi, rfl⟩ := toL_at ht
  obtain ⟨u', h3, h4⟩ := hr.slots.at_ i _ (toL_get? e hi)
  rw [hu] at h3
  injection h3 with h3
  subst h3
  rcases zsE_look (j := h.length) (e := e) (b := mapE wX e) (ss := ss) i with ⟨h5, h6⟩ | h5
  · have e9 : zX h.length (look e i) = zX j (look e i) := by rw [hj]
    rw [h6, e9]; exact kin _ _ (hfr i h5) h4
  · rw [h5, look_map (f := wX) rfl]; exact wX_dn hloc hz _ _ h4⟩

mutual
/-- Blocks that were taken together are read as others are. -/
def uzX (i : Nat) : XV → XV
  | .z j t h => match Nat.beq j i with
    | true => .p t h
    | false => .z j t h
  | .row j => match Nat.beq j i with
    | true => .any
    | false => .row j
  | .ptr j off => match Nat.beq j i with
    | true => .any
    | false => .ptr j off
  | .rp j k sz o => match Nat.beq j i with
    | true => .any
    | false => .rp j k sz o
  | .win j k sz => match Nat.beq j i with
    | true => .any
    | false => .win j k sz
  | .ag vs => .ag (uzXL i vs)
  | .tu vs => .tu (uzXL i vs)
  | .fu f vs => .fu f (uzXL i vs)
  | .p t h => .p t h
  | .any => .any
  | .ow _ _ _ _ => .any
  | .pin u t h => .pin u t h
def uzXL (i : Nat) : List XV → List XV
  | [] => []
  | v :: vs => uzX i v :: uzXL i vs
end
theorem uzXL_map (i : Nat) : ∀ vs : List XV, uzXL i vs = vs.map (uzX i)
  | [] => rfl
  | v :: vs => by simp [uzXL, uzXL_map i vs]
theorem nl_less {C C' : Cx} (hw : C'.w = C.w) (hB : C'.B = C.B) (hS : ∀ k, C.S k → C'.S k) (how : ∀ u e sz n xs, C'.ow u e sz n xs) : Keeps (C.less fun _ => false) C' := ⟨fun k h1 h2 => ⟨by rw [hw]; rfl, hS k h1, by rw [hw]; exact h2⟩, Nat.le_of_eq hB, fun j hj => by simp [Cx.less] at hj, fun _ _ _ _ _ _ => how _ _ _ _ _, fun j k hj _ _ => by simp [Cx.less] at hj⟩
mutual
theorem uz_dn {C C' : Cx} {i : Nat} (hw : C'.w = C.w) (hB : C'.B = C.B) (hS : ∀ k, C.S k → C'.S k) (how : ∀ u e sz n xs, C'.ow u e sz n xs) (hZi : ∀ k, C.Z i k → C'.S k) (hl : ∀ j, j ≠ i → C.pres j → C'.pres j ∧ C'.ρ j = C.ρ j) (hZ : ∀ j k, j ≠ i → C.pres j → C.Z j k → C'.Z j k) : ∀ (v : XV) (u : Value), Dn C v.den u → Dn C' (uzX i v).den u
  | .p t hp, u, h => by
    have := Dn.kp (fun _ => false) t u (show Dn C t u from h)
    rw [hp.k] at this
    exact Dn.keep (nl_less hw hB hS how) _ _ this
  | .any, u, _ => by simp [uzX, XV.den, Dn]
  | .ow _ _ _ _, u, _ => by simp [uzX, XV.den, Dn]
  | .pin x t hn, u, h => by simp only [uzX, XV.den, Dn] at h ⊢; exact h
  | .ag vs, u, h => by
    simp only [uzX, XV.den, Dn] at h ⊢
    obtain ⟨us, h1, h2⟩ := h
    exact ⟨us, h1, uzL_dn hw hB hS how hZi hl hZ vs us h2⟩
  | .tu vs, u, h => by
    simp only [uzX, XV.den, Dn] at h ⊢
    obtain ⟨us, h1, h2⟩ := h
    exact ⟨us, h1, uzL_dn hw hB hS how hZi hl hZ vs us h2⟩
  | .fu f vs, u, h => by
    simp only [uzX, XV.den, Dn] at h ⊢
    obtain ⟨us, h1, h2⟩ := h
    exact ⟨us, h1, uzL_dn hw hB hS how hZi hl hZ vs us h2⟩
  | .z j t hp, u, h => by
    simp only [uzX]
    simp only [XV.den, Dn] at h
    cases hb : Nat.beq j i with
    | true =>
      obtain rfl := Nat.eq_of_beq_eq_true hb
      simp only [XV.den]
      have h2 := h.2
      rw [← hw] at h2
      exact DnZ.dn (C := C') (fun k hk _ => hZi k hk) (Nat.le_of_eq hB) _ _ h2
    | false =>
      have hij := Nat.ne_of_beq_eq_false hb
      simp only [XV.den, Dn]
      refine ⟨(hl j hij h.1).1, DnZ.keep (fun k hk hlt => ⟨fun _ _ _ e1 => by rw [hw]; exact e1, hZ j k hij h.1 hk, by rw [hw]; exact hlt⟩) (Nat.le_of_eq hB) t u h.2⟩
  | .row j, u, h => by
    simp only [uzX]
    cases hb : Nat.beq j i with
    | true => simp [XV.den, Dn]
    | false =>
      have hij := Nat.ne_of_beq_eq_false hb
      simp only [XV.den, Dn] at h ⊢
      exact ⟨(hl j hij h.1).1, by rw [(hl j hij h.1).2]; exact h.2⟩
  | .ptr j off, u, h => by
    simp only [uzX]
    cases hb : Nat.beq j i with
    | true => simp [XV.den, Dn]
    | false =>
      have hij := Nat.ne_of_beq_eq_false hb
      simp only [XV.den, Dn] at h ⊢
      obtain ⟨h1, g, h2, h3⟩ := h
      exact ⟨(hl j hij h1).1, g, by rw [(hl j hij h1).2]; exact h2, h3⟩
  | .rp j k sz o, u, h => by
    simp only [uzX]
    cases hb : Nat.beq j i with
    | true => simp [XV.den, Dn]
    | false =>
      have hij := Nat.ne_of_beq_eq_false hb
      simp only [XV.den, Dn] at h ⊢
      obtain ⟨h1, g, h2, h3⟩ := h
      exact ⟨(hl j hij h1).1, g, by rw [(hl j hij h1).2]; exact h2, h3⟩
  | .win j k sz, u, h => by
    simp only [uzX]
    cases hb : Nat.beq j i with
    | true => simp [XV.den, Dn]
    | false =>
      have hij := Nat.ne_of_beq_eq_false hb
      simp only [XV.den, Dn] at h ⊢
      obtain ⟨h1, g, n, c, h2, h3⟩ := h
      exact ⟨(hl j hij h1).1, g, n, c, by rw [(hl j hij h1).2]; exact h2, h3⟩
theorem uzL_dn {C C' : Cx} {i : Nat} (hw : C'.w = C.w) (hB : C'.B = C.B) (hS : ∀ k, C.S k → C'.S k) (how : ∀ u e sz n xs, C'.ow u e sz n xs) (hZi : ∀ k, C.Z i k → C'.S k) (hl : ∀ j, j ≠ i → C.pres j → C'.pres j ∧ C'.ρ j = C.ρ j) (hZ : ∀ j k, j ≠ i → C.pres j → C.Z j k → C'.Z j k) : ∀ (vs : List XV) (us : List Value), DnL C (XV.denL vs) us → DnL C' (XV.denL (uzXL i vs)) us
  | [], us, h => by simp only [uzXL, XV.denL, DnL] at h ⊢; exact h
  | v :: vs, us, h => by
    simp only [uzXL, XV.denL, DnL] at h ⊢
    obtain ⟨u, us', h1, h2, h3⟩ := h
    exact ⟨u, us', h1, uz_dn hw hB hS how hZi hl hZ v u h2, uzL_dn hw hB hS how hZi hl hZ vs us' h3⟩
end
theorem uz_G {C C' : Cx} {i : Nat} (hw : C'.w = C.w) (hB : C'.B = C.B) (hS : ∀ k, C.S k → C'.S k) (how : ∀ u e sz n xs, C'.ow u e sz n xs) (hZi : ∀ k, C.Z i k → C'.S k) (hl : ∀ j, j ≠ i → C.pres j → C'.pres j ∧ C'.ρ j = C.ρ j) (hZ : ∀ j k, j ≠ i → C.pres j → C.Z j k → C'.Z j k) : ∀ {gs : Frames} {us : List Value}, DnL C (denG gs) us → DnL C' (denG (mapG (uzX i) gs)) us
  | [], us, h => by simp only [denG, mapG, DnL] at h ⊢; exact h
  | (n, e) :: r, us, h => by
    simp only [denG, mapG] at h ⊢
    obtain ⟨u1, u2, rfl, h1, h2⟩ := DnL.split h
    refine DnL.append (DnL.of_at (by rw [h1.len]; exact (toL_len n _).trans (toL_len n e).symm) fun q t u ht hu => ?_) (uz_G hw hB hS how hZi hl hZ h2)
    obtain ⟨hi, rfl⟩ := toL_at ht
    obtain ⟨u', h3, h4⟩ := h1.at_ q _ (toL_get? e hi)
    rw [hu] at h3
    injection h3 with h3
    subst h3
    rw [look_map (f := uzX i) rfl]
    exact uz_dn hw hB hS how hZi hl hZ _ _ h4
section
variable {P : Program} {B : Nat} {w0 : World} {T : Tab} {n : Nat} {e : Env} {h : List XLB} {gs : Frames} {K : XQ} {c : Code}
theorem mapB_here (f : XV → XV) (b : XLB) : (mapB f b).den.here ↔ b.den.here := by cases b <;> exact Iff.rfl
theorem mapB_ext (f : XV → XV) (b : XLB) (x : Ext) : (mapB f b).den = .ext x ↔ b.den = .ext x := by cases b <;> simp [mapB, XLB.den]
/-- Blocks that were taken together are read as others are. -/
theorem XT.unz (i : Nat) (hzn : isZone (hget h i)) (hx : turnK (uzX i) e h gs fun e' h' gs' => setK h' i .none fun h'' => XT P B w0 n c e' h'' gs' K) : XT P B w0 n c e h gs K := ⟨fun gh Q hq => by
  have hx := setK_ok (k := fun h'' => XT P B w0 n c _ h'' _ K) (turnK_ok hx)
  refine TW.le (hx.ok gh Q hq) fun ρ a w hr => ?_
  have R := hr.rel
  have hzd : Go.Proofs.Ytmhmldpccccjbaa.hf (h.map XLB.den) i = .ext zoneX := by rw [← hget_den]; exact isZone_den hzn
  have hil : i < h.length := by have := hf_lt hzd (by simp); simpa using this
  have hden : ∀ j, Go.Proofs.Ytmhmldpccccjbaa.hf (((h.map (mapB (uzX i))).set i .none).map XLB.den) j = if j = i then .none else (mapB (uzX i) (hget h j)).den := fun j => by
    have key : ∀ (h : List XLB) (j : Nat), hget (h.map (mapB (uzX i))) j = mapB (uzX i) (hget h j) := by
      intro h
      induction h with
      | nil => intro j; rfl
      | cons b r ih => intro j; cases j with
        | zero => rfl
        | succ j => exact ih j
    have key2 : ∀ (h : List XLB) (q j : Nat), q < h.length → hget (h.set q .none) j = if j = q then .none else hget h j := by
      intro h
      induction h with
      | nil => intro q j hq; simp at hq
      | cons b r ih => intro q j hq; cases q with
        | zero => cases j <;> simp [hget]
        | succ q => cases j with
          | zero => simp [hget]
          | succ j =>
            show hget (r.set q .none) j = _
            rw [ih q j (by simpa using hq)]
            simp only [Nat.add_right_cancel_iff]
            rfl
    rw [← hget_den, key2 _ _ _ (by simpa using hil)]
    split
    · rfl
    · rw [key]
  have hhere : ∀ j, (Go.Proofs.Ytmhmldpccccjbaa.hf (((h.map (mapB (uzX i))).set i .none).map XLB.den) j).here ↔ j ≠ i ∧ (Go.Proofs.Ytmhmldpccccjbaa.hf (h.map XLB.den) j).here := fun j => by
    rw [hden]
    by_cases hji : j = i
    · rw [if_pos hji]; exact ⟨fun hh => hh.elim, fun hh => absurd hji hh.1⟩
    · rw [if_neg hji, mapB_here, hget_den]; exact ⟨fun hh => ⟨hji, hh⟩, fun hh => hh.2⟩
  have hext : ∀ j x, Go.Proofs.Ytmhmldpccccjbaa.hf (((h.map (mapB (uzX i))).set i .none).map XLB.den) j = .ext x ↔ j ≠ i ∧ Go.Proofs.Ytmhmldpccccjbaa.hf (h.map XLB.den) j = .ext x := fun j x => by
    rw [hden]
    by_cases hji : j = i
    · rw [if_pos hji]; exact ⟨fun hh => (by cases hh), fun hh => absurd hji hh.1⟩
    · rw [if_neg hji, mapB_ext, hget_den]; exact ⟨fun hh => ⟨hji, hh⟩, fun hh => hh.2⟩
  have hps : ∀ j k, (Go.Proofs.Ytmhmldpccccjbaa.hf (((h.map (mapB (uzX i))).set i .none).map XLB.den) j).ps (ρ j) k → j ≠ i ∧ (Go.Proofs.Ytmhmldpccccjbaa.hf (h.map XLB.den) j).ps (ρ j) k := fun j k hp => by
    obtain ⟨x, e1, h1⟩ := LB.ps_of hp
    have h2 := (hext j x).1 e1
    exact ⟨h2.1, by rw [h2.2]; exact h1⟩
  have hS : ∀ k, (cxOf B ρ (Go.Proofs.Ytmhmldpccccjbaa.hf (h.map XLB.den)) w).S k → (cxOf B ρ (Go.Proofs.Ytmhmldpccccjbaa.hf (((h.map (mapB (uzX i))).set i .none).map XLB.den)) w).S k := fun k hk => ⟨fun j hj => hk.1 j ((hhere j).1 hj).2, fun j hp => hk.2 j (hps j k hp).2⟩
  have hZi : ∀ k, (cxOf B ρ (Go.Proofs.Ytmhmldpccccjbaa.hf (h.map XLB.den)) w).Z i k → (cxOf B ρ (Go.Proofs.Ytmhmldpccccjbaa.hf (((h.map (mapB (uzX i))).set i .none).map XLB.den)) w).S k := fun k hk => ⟨fun j hj => hk.2.2.1 j ((hhere j).1 hj).2, fun j hp => hk.2.2.2 j (hps j k hp).1 (hps j k hp).2⟩
  have hl : ∀ j, j ≠ i → (cxOf B ρ (Go.Proofs.Ytmhmldpccccjbaa.hf (h.map XLB.den)) w).pres j → (cxOf B ρ (Go.Proofs.Ytmhmldpccccjbaa.hf (((h.map (mapB (uzX i))).set i .none).map XLB.den)) w).pres j ∧ (cxOf B ρ (Go.Proofs.Ytmhmldpccccjbaa.hf (((h.map (mapB (uzX i))).set i .none).map XLB.den)) w).ρ j = (cxOf B ρ (Go.Proofs.Ytmhmldpccccjbaa.hf (h.map XLB.den)) w).ρ j := fun j hj hp => ⟨(hhere j).2 ⟨hj, hp⟩, rfl⟩
  have hZ : ∀ j k, j ≠ i → (cxOf B ρ (Go.Proofs.Ytmhmldpccccjbaa.hf (h.map XLB.den)) w).pres j → (cxOf B ρ (Go.Proofs.Ytmhmldpccccjbaa.hf (h.map XLB.den)) w).Z j k → (cxOf B ρ (Go.Proofs.Ytmhmldpccccjbaa.hf (((h.map (mapB (uzX i))).set i .none).map XLB.den)) w).Z j k := fun j k hj _ hz => by
    refine ⟨hz.1, ?_, fun q hq => hz.2.2.1 q ((hhere q).1 hq).2, fun q hq hp => hz.2.2.2 q hq (hps q k hp).2⟩
    obtain ⟨x, e1, h1, h2⟩ := LB.zs_of hz.2.1
    rw [(hext j x).2 ⟨hj, e1⟩]
    exact ⟨h2, h1⟩
  have hR : Rel B w0 ρ (Go.Proofs.Ytmhmldpccccjbaa.hf (((h.map (mapB (uzX i))).set i .none).map XLB.den)) w := by
    refine { below := R.below, gl0 := R.gl0, size := R.size, oth := R.oth, blk := fun j t cs hj => ?_, row := fun j e0 sz els hj => ?_, sep := fun j q g hj hq hgj hgq => R.sep j q g ((hhere j).1 hj).2 ((hhere q).1 hq).2 hgj hgq, inj := fun j g hj hg => R.inj j g ((hhere j).1 hj).2 hg, ext := fun j x hj => ?_ }
    · rw [hden] at hj
      split at hj
      · cases hj
      · cases h2 : hget h j with
        | cells t2 cs2 =>
          rw [h2] at hj
          simp only [mapB, XLB.den] at hj
          injection hj with hj1 hj2
          subst hj1 hj2
          have h3 : Go.Proofs.Ytmhmldpccccjbaa.hf (h.map XLB.den) j = .cells t2 (XV.denL cs2) := by rw [← hget_den, h2]; rfl
          obtain ⟨g, us, q1, q2, q3, q4⟩ := R.blk j _ _ h3
          refine ⟨g, us, q1, q2, q3, ?_⟩
          rw [← uzXL_map]
          exact uzL_dn (C := cxOf B ρ (Go.Proofs.Ytmhmldpccccjbaa.hf (h.map XLB.den)) w) (C' := cxOf B ρ (Go.Proofs.Ytmhmldpccccjbaa.hf (((h.map (mapB (uzX i))).set i .none).map XLB.den)) w) rfl rfl hS (fun _ _ _ _ _ => trivial) hZi hl hZ _ _ q4
        | none => rw [h2] at hj; simp only [mapB, XLB.den] at hj; cases hj
        | row _ _ _ _ => rw [h2] at hj; simp only [mapB, XLB.den] at hj; cases hj
        | ext _ => rw [h2] at hj; simp only [mapB, XLB.den] at hj; cases hj
    · rw [hden] at hj
      split at hj
      · cases hj
      · cases h2 : hget h j with
        | row e1 sz1 els1 hp1 =>
          rw [h2] at hj
          simp only [mapB, XLB.den] at hj
          injection hj with hj1 hj2 hj3
          subst hj1 hj2 hj3
          have h3 : Go.Proofs.Ytmhmldpccccjbaa.hf (h.map XLB.den) j = .row e1 sz1 els1 := by rw [← hget_den, h2]; rfl
          obtain ⟨A, c, css, r1, r2, r3, r4⟩ := R.row j _ _ _ h3
          refine ⟨A, c, css, r1, r2, r3, ?_⟩
          have := DnLL.kp (fun _ => false) _ _ r4
          rw [hp1.k] at this
          exact DnLL.keep (nl_less (C := cxOf B ρ (Go.Proofs.Ytmhmldpccccjbaa.hf (h.map XLB.den)) w) (C' := cxOf B ρ (Go.Proofs.Ytmhmldpccccjbaa.hf (((h.map (mapB (uzX i))).set i .none).map XLB.den)) w) rfl rfl hS (fun _ _ _ _ _ => trivial)) _ _ this
        | none => rw [h2] at hj; simp only [mapB, XLB.den] at hj; cases hj
        | cells _ _ => rw [h2] at hj; simp only [mapB, XLB.den] at hj; cases hj
        | ext _ => rw [h2] at hj; simp only [mapB, XLB.den] at hj; cases hj
    · have h2 := (hext j x).1 hj
      have E := R.ext j x h2.2
      exact ⟨E.q, E.at_, E.no, E.one, fun q g hq hg => E.apart q g ((hhere q).1 hq).2 hg, fun q k hq hk hp => E.two q k hq hk (hps q k hp).2⟩
  refine ⟨ρ, ?_, uz_G (C := cxOf B ρ (Go.Proofs.Ytmhmldpccccjbaa.hf (h.map XLB.den)) w) (C' := cxOf B ρ (Go.Proofs.Ytmhmldpccccjbaa.hf (((h.map (mapB (uzX i))).set i .none).map XLB.den)) w) rfl rfl hS (fun _ _ _ _ _ => trivial) hZi hl hZ hr.ghost, hR, hr.defers⟩
  show DnL (cxOf B ρ (Go.Proofs.Ytmhmldpccccjbaa.hf (((h.map (mapB (uzX i))).set i .none).map XLB.den)) w) (toL n (mapE (uzX i) e)) _
  refine DnL.of_at (by rw [hr.slots.len]; exact (toL_len n _).trans (toL_len n e).symm) fun q t u ht hu => ?_
  obtain ⟨hi, rfl⟩ := toL_at ht
  obtain ⟨u', h3, h4⟩ := hr.slots.at_ q _ (toL_get? e hi)
  rw [hu] at h3
  injection h3 with h3
  subst h3
  rw [look_map (f := uzX i) rfl]
  exact uz_dn (C := cxOf B ρ (Go.Proofs.Ytmhmldpccccjbaa.hf (h.map XLB.den)) w) (C' := cxOf B ρ (Go.Proofs.Ytmhmldpccccjbaa.hf (((h.map (mapB (uzX i))).set i .none).map XLB.den)) w) rfl rfl hS (fun _ _ _ _ _ => trivial) hZi hl hZ _ _ h4⟩
/-- As XT.loop; rows may be written no more from a round on. -/
theorem XT.loopZ (O : TabOk P T) {Y : Type} (ds : List Nat) (us : Y → Env) (hs : Y → List (Nat × XLB)) (inv : Y → Prop) (μ : Y → Nat) (y0 : Y) (h0 : inv y0) (hle : LeX e h gs (us y0 ++ dropE ds e) (setsH h (hs y0)) gs)
    (round : ∀ y, inv y → forceE (us y ++ dropE ds e) fun e' => forceH (setsH h (hs y)) fun h' => X P B w0 T n c e' h' gs fun ex e1 h1 g1 => match ex with
      | .normal => ∃ z, inv z ∧ μ z < μ y ∧ ∃ js, LeFz (us z ++ dropE ds e) (setsH h (hs z)) gs js e1 h1 g1
      | ex => K ex e1 h1 g1) : XT P B w0 n (.loop c) e h gs K := ⟨fun gh Q hq => by
  refine TW.le (TW.loop (fun m σ => ∃ y, inv y ∧ μ y = m ∧ σ = xst n (us y ++ dropE ds e) (setsH h (hs y)) gs) (μ y0) ⟨y0, h0, rfl, rfl⟩ fun m σ ⟨y, h1, h2, h3⟩ => ?_) (hle.sle gh)
  subst h3
  have := forceH_ok (k := fun h' => X P B w0 T n c _ h' gs _) (forceE_ok (k := fun e' => forceH (setsH h (hs y)) fun h' => X P B w0 T n c e' h' gs _) (round y h1))
  refine (X_ok O this).ok gh _ fun ex e1 h1 g1 hk => ?_
  cases ex with
  | normal =>
    obtain ⟨z, hz1, hz2, js, hz3⟩ := hk
    exact ⟨μ z, _, by omega, ⟨z, hz1, rfl, rfl⟩, hz3.sle gh⟩
  | _ => exact hq _ _ _ _ hk⟩
end
end
end Go.Proofs.Ytmhmldpccccjbaa
