/- Numbers counted up in place, in bytes made behind a mark. No condition. -/
import Derived.Test.YtpckkajodpiiaaaU4
namespace Go.Proofs.Ytpckkajodpiiaaa
open Go.RowKit
set_option linter.unusedVariables false
set_option linter.unusedSimpArgs false

theorem DnL.of_at {C : Cx} : ∀ {ts : List TV} {us : List Value}, ts.length = us.length → (∀ (i : Nat) (t : TV) (u : Value), ts[i]? = some t → us[i]? = some u → Dn C t u) → DnL C ts us
  | [], us, hl, _ => by simp only [DnL]; exact List.eq_nil_of_length_eq_zero hl.symm
  | t :: ts, [], hl, _ => by simp at hl
  | t :: ts, u :: us, hl, hh => DnL.cons (hh 0 t u rfl rfl) (DnL.of_at (by simpa using hl) fun i a b ha hb => hh (i + 1) a b (by simpa using ha) (by simpa using hb))
theorem toL_at {n i : Nat} {e : Env} {t : TV} (h : (toL n e)[i]? = some t) : i < n ∧ t = (look e i).den := by
  have hi : i < n := by
    have := (List.getElem?_eq_some_iff.1 h).1
    rwa [toL_len] at this
  rw [toL_get? e hi] at h
  exact ⟨hi, (Option.some.inj h).symm⟩
section
variable {P : Program} {B : Nat} {w0 : World} {T : Tab} {n : Nat} {e : Env} {h : List XLB} {gs : Frames} {K : XQ} {c : Code}
/-- What is known of a slot behind a mark. -/
inductive MarkV (n : Nat) (h : List XLB) (us : Nat → Value) (e : Env) (d : Nat) : XV → Prop
  | any : MarkV n h us e d .any
  | val {x : Value} {hp : Nl (.v x)} (hv : look e d = .p (.v x) hp) : MarkV n h us e d (.p (.v x) hp)
  | pin {t0 t : TV} {hn : Nl t} (hd : Nat.blt d n = true) (ha : argP (h.map XLB.den) (look e d).den = some t0) (hp : Pu t0) (hu : untag t0 = t) : MarkV n h us e d (.pin (us d) t hn)
def MarkE (n : Nat) (h : List XLB) (us : Nat → Value) (e : Env) : Env → Prop
  | [] => True
  | x :: r => MarkV n h us e x.1 x.2 ∧ MarkE n h us e r
theorem MarkE.look {us : Nat → Value} : ∀ {e' : Env}, MarkE n h us e e' → ∀ d, MarkV n h us e d (look e' d)
  | [], _, d => .any
  | x :: r, hh, d => by
    by_cases hd : x.1 = d
    · have e1 : Go.Proofs.Ytpckkajodpiiaaa.look (x :: r) d = x.2 := by
        have := look_same r x.1 x.2
        rw [← hd]; exact this
      rw [e1, ← hd]
      exact hh.1
    · have e1 : Go.Proofs.Ytpckkajodpiiaaa.look (x :: r) d = Go.Proofs.Ytpckkajodpiiaaa.look r d := look_ne r x.2 hd
      rw [e1]
      exact MarkE.look hh.2 d
def PinsE (M : Nat) (w1 : World) : Env → Prop
  | [] => True
  | x :: r => (match x.2 with
    | .pin u t _ => PinOk M w1 u t
    | _ => True) ∧ PinsE M w1 r
def valX : XV → XV
  | .p (.v x) h => .p (.v x) h
  | _ => .any
theorem markV_val {us : Nat → Value} (d : Nat) : MarkV n h us e d (valX (look e d)) := by
  unfold valX
  split
  · rename_i x hp hx; exact .val hx
  · exact .any
theorem look_app : ∀ {a b : Env} (d : Nat), (∃ x ∈ a, x.1 = d ∧ look (a ++ b) d = look a d) ∨ ((∀ x ∈ a, x.1 ≠ d) ∧ look (a ++ b) d = look b d)
  | [], b, d => .inr ⟨by simp, rfl⟩
  | x :: r, b, d => by
    by_cases hd : x.1 = d
    · subst hd
      refine .inl ⟨x, by simp, rfl, ?_⟩
      have e1 := look_same (r ++ b) x.1 x.2
      have e2 := look_same r x.1 x.2
      exact e1.trans e2.symm
    · have e1 : Go.Proofs.Ytpckkajodpiiaaa.look ((x :: r) ++ b) d = Go.Proofs.Ytpckkajodpiiaaa.look (r ++ b) d := look_ne (r ++ b) x.2 hd
      have e2 : Go.Proofs.Ytpckkajodpiiaaa.look (x :: r) d = Go.Proofs.Ytpckkajodpiiaaa.look r d := look_ne r x.2 hd
      rcases look_app (a := r) (b := b) d with ⟨y, h1, h2, h3⟩ | ⟨h1, h2⟩
      · exact .inl ⟨y, by simp [h1], h2, by rw [e1, e2, h3]⟩
      · refine .inr ⟨fun y hy => ?_, by rw [e1, h2]⟩
        rcases List.mem_cons.1 hy with rfl | hy
        · exact hd
        · exact h1 y hy
/-- The slots that were pinned, as they were. -/
def bkE (e : Env) : List Nat → Env
  | [] => []
  | k :: r => (k, look e k) :: bkE e r
def KeptP (n : Nat) (us : Nat → Value) (e1 : Env) : List Nat → Prop
  | [] => True
  | k :: r => (∃ t hn, look e1 k = .pin (us k) t hn) ∧ Nat.blt k n = true ∧ KeptP n us e1 r
/-- What is known of a slot behind the marked code. -/
inductive BackV (n : Nat) (us : Nat → Value) (e : Env) (w : XV) : XV → Prop
  | any : BackV n us e w .any
  | val {x y : Value} {hp : Nl (.v x)} {hq : Nl (.v y)} (hv : w = .p (.v x) hp) (hx : x = y) : BackV n us e w (.p (.v y) hq)
  | pin {k : Nat} {t : TV} {hn : Nl t} (hv : w = .pin (us k) t hn) (hk : Nat.blt k n = true) : BackV n us e w (look e k)
theorem back_look {us : Nat → Value} {e1 : Env} : ∀ {ks : List Nat}, KeptP n us e1 ks → ∀ d, BackV n us e (look e1 d) (look (bkE e ks ++ mapE valX e1) d)
  | [], _, d => by
    show BackV n us e (look e1 d) (look (mapE valX e1) d)
    rw [look_map (f := valX) rfl]
    unfold valX
    split
    · rename_i x hp hx; rw [hx]; exact .val rfl rfl
    · exact .any
  | k :: r, hh, d => by
    obtain ⟨⟨t, hn, h1⟩, h2, h3⟩ := hh
    by_cases hd : k = d
    · subst hd
      have : Go.Proofs.Ytpckkajodpiiaaa.look (bkE e (k :: r) ++ mapE valX e1) k = look e k := look_same (bkE e r ++ mapE valX e1) k (look e k)
      rw [this]
      exact .pin h1 h2
    · have : Go.Proofs.Ytpckkajodpiiaaa.look (bkE e (k :: r) ++ mapE valX e1) d = look (bkE e r ++ mapE valX e1) d := look_ne (bkE e r ++ mapE valX e1) (look e k) hd
      rw [this]
      exact back_look h3 d
def backQ (n : Nat) (us : Nat → Value) (ks : List Nat) (e : Env) (h : List XLB) (gs : Frames) (K : XQ) : XQ := fun ex e1 _ _ => KeptP n us e1 ks ∧ forceE (bkE e ks ++ mapE valX e1) fun eo => K ex eo h gs
def backC (P : Program) (B : Nat) (w0 : World) (n : Nat) (us : Nat → Value) (ks : List Nat) (e : Env) (h : List XLB) (gs : Frames) (K : XQ) : Code → Env → List XLB → Frames → Prop := fun r e1 _ _ => KeptP n us e1 ks ∧ forceE (bkE e ks ++ mapE valX e1) fun eo => XT P B w0 n r eo h gs K
/-- The first m + 1 statements of a row; Kb: what is to be shown of the others. -/
def XCh (P : Program) (B : Nat) (w0 : World) (T : Tab) (n : Nat) : Nat → Code → Env → List XLB → Frames → XQ → (Code → Env → List XLB → Frames → Prop) → Prop
  | 0, .seq a b, e, h, gs, K, Kb => X P B w0 T n a e h gs fun ex e h gs => match ex with
    | .normal => Kb b e h gs
    | ex => K ex e h gs
  | m + 1, .seq a b, e, h, gs, K, Kb => X P B w0 T n a e h gs fun ex e h gs => match ex with
    | .normal => XCh P B w0 T n m b e h gs K Kb
    | ex => K ex e h gs
  | _, _, _, _, _, _, _ => False
theorem xch_ok (O : TabOk P T) : ∀ (m : Nat) {c : Code} {e : Env} {h : List XLB} {gs : Frames} {K : XQ} {Kb : Code → Env → List XLB → Frames → Prop}, XCh P B w0 T n m c e h gs K Kb → ∀ {gh : List Value} {F : Exit → Act → World → Prop},
    (∀ ex e h gs, K ex e h gs → ∀ ρ a w, RelS B w0 gh ρ (xst n e h gs) a w → F ex a w) → (∀ r e h gs, Kb r e h gs → ∀ ρ a w, RelS B w0 gh ρ (xst n e h gs) a w → r.wp P F a w) → ∀ ρ a w, RelS B w0 gh ρ (xst n e h gs) a w → c.wp P F a w
  | 0, .seq x y, e, h, gs, K, Kb, hx, gh, F, hK, hb, ρ, a, w, hr => by
    simp only [XCh] at hx
    refine wp_seq (wp_mono ((X_ok O hx).ok gh (fun ex σ => match ex with
      | .normal => ∀ ρ a w, RelS B w0 gh ρ σ a w → y.wp P F a w
      | ex => ∀ ρ a w, RelS B w0 gh ρ σ a w → F ex a w) (fun ex e h gs h1 => ?_) ρ a w hr) fun ex a w ⟨σ, ρ, h1, h2⟩ => ?_)
    · cases ex <;> first | exact hb _ _ _ _ h1 | exact hK _ _ _ _ h1
    · cases ex <;> exact h1 ρ a w h2
  | m + 1, .seq x y, e, h, gs, K, Kb, hx, gh, F, hK, hb, ρ, a, w, hr => by
    simp only [XCh] at hx
    refine wp_seq (wp_mono ((X_ok O hx).ok gh (fun ex σ => match ex with
      | .normal => ∀ ρ a w, RelS B w0 gh ρ σ a w → y.wp P F a w
      | ex => ∀ ρ a w, RelS B w0 gh ρ σ a w → F ex a w) (fun ex e h gs h1 => ?_) ρ a w hr) fun ex a w ⟨σ, ρ, h1, h2⟩ => ?_)
    · cases ex <;> first | exact xch_ok O m h1 hK hb | exact hK _ _ _ _ h1
    · cases ex <;> exact h1 ρ a w h2
theorem Rel.none {M : Nat} {w : World} {ρ : Nat → Value} (hg : GlB M w0) (hb : Below M w0 w) (hs : M ≤ w.heap.size) : Rel M w0 ρ (hf []) w where
  below := hb
  gl0 := hg
  size := hs
  blk i t cs hi := by simp [hf] at hi
  row i e sz els hi := by simp [hf] at hi
  sep i j g hi hj _ _ := by simp [hf, LB.here] at hi
  inj i g hi _ := by simp [hf, LB.here] at hi
/-- Marked code: it changes only what was made behind the mark; what is told of the pinned slots is as it was. -/
theorem XT.mark (O : TabOk P T) (m : Nat) (ks : List Nat) (hx : ∀ (M : Nat) (w1 : World) (us : Nat → Value), ∃ pins : Env, MarkE n h us e pins ∧ (PinsE M w1 pins → forceE (pins ++ mapE valX e) fun e' => XCh P M w1 T n m c e' [] [] (backQ n us ks e h gs K) (backC P B w0 n us ks e h gs K))) : XT P B w0 n c e h gs K := ⟨fun gh Q hq ρ a w hr => by
  have hlen : a.tmps.toList.length = n := by have := hr.slots.len; rw [this]; exact toL_len n e
  obtain ⟨pins, hm, hx⟩ := hx w.heap.size w fun d => (a.tmps.toList[d]?).getD Value.nilFunc
  have hus : ∀ (d : Nat) (u : Value), a.tmps.toList[d]? = some u → (a.tmps.toList[d]?).getD Value.nilFunc = u := fun d u hu => by rw [hu]; rfl
  have hat : ∀ d : Nat, d < n → ∃ u, a.tmps.toList[d]? = some u ∧ Dn (cxOf B ρ (hf (h.map XLB.den)) w) (look e d).den u := fun d hd => hr.slots.at_ d _ (toL_get? e hd)
  have hpin : ∀ (d : Nat) (v : XV), MarkV n h (fun d => (a.tmps.toList[d]?).getD Value.nilFunc) e d v → ∀ t hn, v = .pin ((a.tmps.toList[d]?).getD Value.nilFunc) t hn → PinOk w.heap.size w ((a.tmps.toList[d]?).getD Value.nilFunc) t := fun d v hv t hn e1 => by
    cases hv with
    | any => cases e1
    | val _ => cases e1
    | pin hd ha hp hu =>
      injection e1 with _ e2
      subst e2
      obtain ⟨u, h1, h2⟩ := hat d (Nat.blt_eq.mp hd)
      rw [hus d u h1]
      have h3 := argP_dn (h' := hf (h.map XLB.den)) (fun i _ => .inr rfl) hr.rel _ _ u ha h2
      rw [← hu]
      exact Dn.pu (C := cxAll B ρ (hf (h.map XLB.den)) w) (C' := pinCx w.heap.size w) rfl (fun k hk => hk) _ _ hp h3
  have hpins : ∀ e2 : Env, MarkE n h (fun d => (a.tmps.toList[d]?).getD Value.nilFunc) e e2 → PinsE w.heap.size w e2 := by
    intro e2
    induction e2 with
    | nil => intro _; trivial
    | cons x r ih =>
      intro hh
      refine ⟨?_, ih hh.2⟩
      have h1 := hh.1
      split
      · rename_i u t hn hx2
        rw [hx2] at h1
        have h2 := h1
        cases h1 with
        | pin hd ha hp hu => exact hpin x.1 _ h2 _ _ rfl
      · trivial
  have hml : ∀ d, MarkV n h (fun d => (a.tmps.toList[d]?).getD Value.nilFunc) e d (Go.Proofs.Ytpckkajodpiiaaa.look (pins ++ mapE valX e) d) := fun d => by
    rcases look_app (a := pins) (b := mapE valX e) d with ⟨x, _, _, h3⟩ | ⟨_, h3⟩
    · rw [h3]; exact hm.look d
    · rw [h3, look_map (f := valX) rfl]; exact markV_val d
  have R' : RelS w.heap.size w [] (fun _ => .nilFunc) (xst n (pins ++ mapE valX e) [] []) a w := by
    refine ⟨DnL.of_at (by rw [hlen]; exact toL_len n _) fun i t u ht hu => ?_, by simp [xst, denG, DnL], Rel.none hr.rel.glb (Below.refl _ _) (Nat.le_refl _), hr.defers⟩
    obtain ⟨hi, rfl⟩ := toL_at ht
    have hv := hml i
    obtain ⟨u', h1, h2⟩ := hat i hi
    rw [hu] at h1
    injection h1 with h1
    subst h1
    generalize Go.Proofs.Ytpckkajodpiiaaa.look (pins ++ mapE valX e) i = v at hv ⊢
    cases hv with
    | any => simp [XV.den, Dn]
    | val hv2 => rw [hv2] at h2; simp only [XV.den, Dn] at h2 ⊢; exact h2
    | pin hd ha hp hu2 => simp only [XV.den, Dn]; rw [hu]; rfl
  have out : ∀ e1 h1 g1 ρ' a' w', KeptP n (fun d => (a.tmps.toList[d]?).getD Value.nilFunc) e1 ks → RelS w.heap.size w [] ρ' (xst n e1 h1 g1) a' w' → RelS B w0 gh ρ (xst n (bkE e ks ++ mapE valX e1) h gs) a' w' := by
    intro e1 h1 g1 ρ' a' w' hb hr'
    obtain ⟨eo, heo⟩ : ∃ eo, eo = bkE e ks ++ mapE valX e1 := ⟨_, rfl⟩
    rw [← heo]
    have hbel : Below w.heap.size w w' := hr'.rel.below
    refine ⟨?_, DnL.keep (.grow hbel) _ _ hr.ghost, hr.rel.grow hbel, hr'.defers⟩
    refine DnL.of_at ?_ fun i t u ht hu => ?_
    · have := hr'.slots.len
      rw [this]
      exact (toL_len n eo).trans (toL_len n e1).symm
    obtain ⟨hi, rfl⟩ := toL_at ht
    obtain ⟨u', h3, h4⟩ := hr'.slots.at_ i _ (toL_get? e1 hi)
    rw [hu] at h3
    injection h3 with h3
    subst h3
    have hv := back_look (e := e) hb i
    rw [← heo] at hv
    generalize Go.Proofs.Ytpckkajodpiiaaa.look eo i = v at hv ⊢
    generalize Go.Proofs.Ytpckkajodpiiaaa.look e1 i = x at hv h4
    cases hv with
    | any => simp [XV.den, Dn]
    | val hv2 hx => subst hv2; subst hx; simp only [XV.den, Dn] at h4 ⊢; exact h4
    | pin hv2 hk2 =>
      rename_i k t hn
      subst hv2
      simp only [XV.den, Dn] at h4
      obtain ⟨u2, h5, h6⟩ := hat k (Nat.blt_eq.mp hk2)
      rw [hus k u2 h5] at h4
      subst h4
      exact Dn.keep (.grow hbel) _ _ h6
  refine xch_ok O m (forceE_ok (hx (hpins pins hm))) (gh := []) (F := liftQ B w0 gh Q) ?_ ?_ _ a w R'
  · rintro ex e1 h1 g1 ⟨hb, hk⟩ ρ' a' w' hr'
    exact ⟨_, ρ, hq _ _ _ _ (forceE_ok (k := fun eo => K ex eo h gs) hk), out e1 h1 g1 ρ' a' w' hb hr'⟩
  · rintro r e1 h1 g1 ⟨hb, hk⟩ ρ' a' w' hr'
    exact (forceE_ok (k := fun eo => XT P B w0 n r eo h gs K) hk).ok gh Q hq ρ a' w' (out e1 h1 g1 ρ' a' w' hb hr')⟩
/-- What is left known of a slot behind a call that writes over all that was made behind the mark. -/
inductive SpV (w : XV) : XV → Prop
  | any : SpV w .any
  | val {x : Value} {hp hq : Nl (.v x)} (hv : w = .p (.v x) hp) : SpV w (.p (.v x) hq)
  | pin {u : Value} {t t' : TV} {hp : Nl t} {hq : Nl t'} (hv : w = .pin u t hp) : SpV w (.pin u t' hq)
def spX : XV → XV
  | .p (.v x) h => .p (.v x) h
  | .pin u t h => .pin u t h
  | _ => .any
theorem spX_ok (w : XV) : SpV w (spX w) := by
  cases w <;> first | exact .any | exact .pin rfl | (rename_i t hp; cases t <;> first | exact .any | exact .val rfl)
theorem sp_dn {C C' : Cx} {us : List Value} (hd : DnL C (toL n e) us) : DnL C' (toL n (mapE spX e)) us := by
  refine DnL.of_at (by rw [hd.len]; exact (toL_len n _).trans (toL_len n e).symm) fun i t u ht hu => ?_
  obtain ⟨hi, rfl⟩ := toL_at ht
  obtain ⟨u', h3, h4⟩ := hd.at_ i _ (toL_get? e hi)
  rw [hu] at h3
  injection h3 with h3
  subst h3
  rw [look_map (f := spX) rfl]
  have hv := spX_ok (look e i)
  generalize spX (look e i) = v at hv ⊢
  generalize look e i = x at hv h4
  cases hv with
  | any => simp [XV.den, Dn]
  | val hv2 => subst hv2; simp only [XV.den, Dn] at h4 ⊢; exact h4
  | pin hv2 => subst hv2; simp only [XV.den, Dn] at h4 ⊢; exact h4
/-- The waiting frames, of which nothing is known any more. -/
def anyG : Frames → Frames
  | [] => []
  | f :: r => (f.1, []) :: anyG r
theorem DnL.split {C : Cx} : ∀ {a b : List TV} {us : List Value}, DnL C (a ++ b) us → ∃ u1 u2, us = u1 ++ u2 ∧ DnL C a u1 ∧ DnL C b u2
  | [], b, us, h => ⟨[], us, rfl, DnL.nil, h⟩
  | t :: a, b, us, h => by
    simp only [List.cons_append, DnL] at h
    obtain ⟨u, us', rfl, h1, h2⟩ := h
    obtain ⟨u1, u2, rfl, h3, h4⟩ := DnL.split h2
    exact ⟨u :: u1, u2, rfl, DnL.cons h1 h3, h4⟩
theorem anyG_dn {C C' : Cx} : ∀ {gs : Frames} {us : List Value}, DnL C (denG gs) us → DnL C' (denG (anyG gs)) us
  | [], us, h => by simp only [denG, anyG, DnL] at h ⊢; exact h
  | f :: r, us, h => by
    simp only [denG] at h
    obtain ⟨u1, u2, rfl, h1, h2⟩ := DnL.split h
    simp only [anyG, denG]
    refine DnL.append ?_ (anyG_dn h2)
    have : toL f.1 [] = List.replicate f.1 .any := by
      apply List.ext_getElem?
      intro i
      by_cases hi : i < f.1
      · rw [toL_get? [] hi]; simp [Go.Proofs.Ytpckkajodpiiaaa.look, XV.den, hi]
      · rw [List.getElem?_eq_none (by rw [toL_len]; omega), List.getElem?_eq_none (by simp; omega)]
    rw [this]
    exact DnL.anys _ _ (by have := h1.len; rw [this]; exact toL_len _ _)
/-- A function that writes over what was made behind a mark, and over nothing else. -/
def SpM (P : Program) (f : FuncId) (ts : List TV) : Prop := entB P f = true ∧ ∀ (C : Cx) (vals : List Value), C.B ≤ C.w.heap.size → DnL C ts vals → Calls P f vals.toArray C.w fun e w' => e = .returned (.tuple #[]) ∧ Below C.B C.w w'
/-- As XMeets.of_X, with regions ahead of which the walk stops. -/
theorem XMeets.of_XM (ms : Env) (O : TabOk P T) {f : FuncId} {fn : Func} {c : Code} {args : List TV} {avs : List XV} {r : XV} (e0 : Env) (hE : entB P f = true) (hfn : P.funcs[f]? = some fn) (hb : fn.body = some c) (hp : PuL args) (hu : untagL args = XV.denL avs) (he : envA avs 0 = e0) (hle : Nat.ble avs.length fn.ntmps = true)
    (hx : ∀ B w0, X P B w0 T fn.ntmps c e0 [] [(0, ms)] (finQ T fn.ntmps fn.results.toList r.den)) : XMeets P f args r := ⟨hE, TMeets.of_TW hfn hb hp fun B w0 => by
  have hle := Nat.le_of_ble_eq_true hle
  have hl : args.length = (XV.denL avs).length := by rw [← hu]; exact (XMeets.of_X.untagL_len args).symm
  rw [hu, hl, ← toL_envA hle, he]
  have e1 : xst fn.ntmps e0 [] [(0, ms)] = ⟨toL fn.ntmps e0, [], []⟩ := rfl
  have := (X_ok O (hx B w0)).ok [] (endT P fn r.den) (fun ex e h gs hk => by
    have fin : ∀ {ex : Exit}, (ex = .normal ∨ ex = .ret) → (resX T fn.ntmps e h fn.results.toList fun v => FinG h v r.den) → endT P fn r.den ex (xst fn.ntmps e h gs) := fun hex hk => by
      obtain ⟨v, hv, q, ho, hq⟩ := resX_ok O (g := denG gs) hk
      exact ⟨hex, v.den, q, hv, ho, hq⟩
    cases ex with
    | normal => exact fin (.inl rfl) hk
    | ret => exact fin (.inr rfl) hk
    | _ => exact hk.elim)
  rw [e1] at this
  exact this⟩
end
end Go.Proofs.Ytpckkajodpiiaaa

namespace Go.Proofs.Ytpckkajodpiiaaa
open Go.RowKit
set_option linter.unusedVariables false
set_option linter.unusedSimpArgs false

/-- A cell holds some number. -/
def ICell (w : World) (a : Addr) (k : IntKind) : Prop := ∃ x, w.cell? a = some (.int k x)
theorem ICell.set {w : World} {a q : Addr} {k k' : IntKind} (h : ICell w a k) (hq : ICell w q k') (y : Int) : ICell (w.setCell q (.int k' y)) a k := by
  obtain ⟨x, hx⟩ := h
  obtain ⟨z, hz⟩ := hq
  by_cases e : q = a
  · subst e
    rw [hx] at hz
    injection hz with hz
    injection hz with h1 h2
    subst h1
    exact ⟨y, World.cell?_setCell_same w q _ hx⟩
  · exact ⟨x, (World.cell?_setCell_other w q a _ e).trans hx⟩
theorem cell_set {w : World} {a q : Addr} {k' : IntKind} {A : Option Addr} {n c : Nat} (h : w.cell? a = some (.slice A n c)) (hq : ICell w q k') (y : Int) : (w.setCell q (.int k' y)).cell? a = some (.slice A n c) := by
  obtain ⟨z, hz⟩ := hq
  by_cases e : q = a
  · subst e
    rw [h] at hz
    cases hz
  · exact (World.cell?_setCell_other w q a _ e).trans h
theorem Unf.set {w : World} {k : Nat} (h : Unf w k) (q : Addr) (u : Value) : Unf (w.setCell q u) k := by
  obtain ⟨cur, ty, h⟩ := h
  by_cases e : k = q.block
  · subst e
    refine ⟨if q.spot.isSome then cur else cur.setIfInBounds q.off u, ty, ?_⟩
    unfold World.setCell
    simp only [Array.getElem?_modify, if_true, h, Option.map_some]
  · exact ⟨cur, ty, by rw [Below.heap_setCell w q u k e]; exact h⟩
theorem Unf.frozen {w : World} {a : Addr} (h : Unf w a.block) : w.frozen? a = false := by
  obtain ⟨cur, ty, h⟩ := h
  unfold World.frozen?
  rw [h]
  simp
theorem ICell.grow {w w' : World} {a : Addr} {k : IntKind} (h : ICell w a k) (hb : Below w.heap.size w w') : ICell w' a k := by
  obtain ⟨x, hx⟩ := h
  exact ⟨x, (hb.cell (World.block_lt_of_cell? w a hx)).trans hx⟩
theorem Unf.lt_ {w : World} {k : Nat} (h : Unf w k) : k < w.heap.size := by
  obtain ⟨cur, ty, h⟩ := h
  exact (Array.getElem?_eq_some_iff.1 h).1
theorem Unf.grow {w w' : World} {k : Nat} (h : Unf w k) (hb : Below w.heap.size w w') : Unf w' k := by
  unfold Unf
  rw [hb.block k h.lt_]
  exact h
/-- Numbers are written over numbers, and nothing else, in what was made behind a mark. -/
structure Shp (M : Nat) (w w' : World) : Prop where
  below : Below M w w'
  cell : ∀ a v, w.cell? a = some v → w'.cell? a = some v ∨ ∃ k x y, v = .int k x ∧ w'.cell? a = some (.int k y)
  unf : ∀ k, Unf w k → Unf w' k
theorem Shp.refl (M : Nat) (w : World) : Shp M w w := ⟨Below.refl _ _, fun _ _ h => .inl h, fun _ h => h⟩
theorem Shp.grow {M : Nat} {w w' w2 : World} (h : Shp M w w') (hM : M ≤ w'.heap.size) (hb : Below w'.heap.size w' w2) : Shp M w w2 where
  below := h.below.trans (hb.mono hM)
  cell a v hv := by
    have key : ∀ u, w'.cell? a = some u → w2.cell? a = some u := fun u hu => (hb.cell (World.block_lt_of_cell? w' a hu)).trans hu
    rcases h.cell a v hv with h1 | ⟨k, x, y, h1, h2⟩
    · exact .inl (key _ h1)
    · exact .inr ⟨k, x, y, h1, key _ h2⟩
  unf k hk := (h.unf k hk).grow hb
theorem Shp.set {M : Nat} {w w' : World} (h : Shp M w w') {q : Addr} (hq : M ≤ q.block) {k : IntKind} (hc : ICell w' q k) (y : Int) : Shp M w (w'.setCell q (.int k y)) where
  below := h.below.setCell hq _
  cell a v hv := by
    obtain ⟨z, hz⟩ := hc
    by_cases e : q = a
    · subst e
      rcases h.cell q v hv with h1 | ⟨k', x, y', h1, h2⟩
      · rw [hz] at h1
        injection h1 with h1
        exact .inr ⟨k, z, y, h1.symm, World.cell?_setCell_same w' q _ hz⟩
      · rw [hz] at h2
        injection h2 with h2
        injection h2 with h2 h3
        subst h2
        exact .inr ⟨k, x, y, h1, World.cell?_setCell_same w' q _ hz⟩
    · rcases h.cell a v hv with h1 | ⟨k', x, y', h1, h2⟩
      · exact .inl ((World.cell?_setCell_other w' q a _ e).trans h1)
      · exact .inr ⟨k', x, y', h1, (World.cell?_setCell_other w' q a _ e).trans h2⟩
  unf k' hk := (h.unf k' hk).set q _
/-- A function that writes numbers over numbers in what was made behind a mark. -/
def SpB (P : Program) (f : FuncId) (ts : List TV) : Prop := entB P f = true ∧ ∀ (C : Cx) (vals : List Value), C.B ≤ C.w.heap.size → DnL C ts vals → Calls P f vals.toArray C.w fun e w' => e = .returned (.tuple #[]) ∧ Shp C.B C.w w'
theorem SpB.sp {P : Program} {f : FuncId} {ts : List TV} (h : SpB P f ts) : SpM P f ts := ⟨h.1, fun C vals hB hd => (h.2 C vals hB hd).mono fun e w' hh => ⟨hh.1, hh.2.below⟩⟩
section
variable {P : Program} {B : Nat} {w0 : World} {T : Tab} {n : Nat} {e : Env} {h : List XLB} {gs : Frames} {K : XQ} {c : Code}
/-- Nothing is known of local blocks any more. -/
theorem XT.clear (hx : forceE (mapE (lowX 0) e) fun e' => XT P B w0 n c e' [] (mapG (lowX 0) gs) K) : XT P B w0 n c e h gs K := ⟨fun gh Q hq => by
  have hx := forceE_ok (k := fun e' => XT P B w0 n c e' [] (mapG (lowX 0) gs) K) hx
  refine TW.le (hx.ok gh Q hq) ?_
  have key : ∀ (m : Nat) (e : Env), toL m (mapE (lowX 0) e) = kpL (low 0) (toL m e) := fun m e => by
    rw [kpL_map]
    simp only [toL, List.map_map]
    exact List.map_congr_left fun d _ => by simp only [Function.comp, look_map (f := lowX 0) rfl, lowX_den]
  have key2 : ∀ gs : Frames, denG (mapG (lowX 0) gs) = kpL (low 0) (denG gs) := by
    intro gs
    induction gs with
    | nil => rfl
    | cons f r ih => simp only [mapG, denG, key, ih, kpL_map, List.map_append]
  have lr : ∀ l : List TV, LeL l l := fun l => leL_of rfl fun i t t' h1 h2 => by rw [h1] at h2; injection h2 with h2; exact .inr (.inl h2)
  refine SLe.back (σ := xst n e h gs) 0 ?_ (by simp [xst, LeB]) ?_
  · show LeL _ (toL n (mapE (lowX 0) e))
    rw [key]; exact lr _
  · show LeL _ (denG (mapG (lowX 0) gs))
    rw [key2]; exact lr _⟩
def keepE (e : Env) : List Nat → Env
  | [] => []
  | k :: r => (k, lowX 0 (look e k)) :: keepE e r
theorem spb_enters {w0 : World} {h : List LB} {s : List TV} {o : Oper} {cl : Call} {fop : Operand} {f : FuncId} {caps ts : List TV} (ho : o.op = .call cl) (hcl : cl.callee = .value fop) (hf : tev s fop = .fn (.func f) caps) (hE : entB P f = true)
    (ha : argPL h (cl.args.toList.map (tev s) ++ caps) = some ts) (hm : ∀ (C : Cx) (vals : List Value), C.B ≤ C.w.heap.size → DnL C ts vals → Calls P f vals.toArray C.w fun e w' => e = .returned (.tuple #[]) ∧ Shp C.B C.w w') {ρ : Nat → Value} {h' : Nat → LB} {w : World} {a : Act} (H : HS h h') (R : Rel B w0 ρ h' w) (hx : ∀ x ∈ o.op.operands.toList, Dn (cxOf B ρ h' w) (tev s x) (a.eval x))
    {K : Act → World → Prop} {Q : Exit → Act → World → Prop} (hK : ∀ w', Shp B w w' → K (a.put o.dst (.tuple #[])) w') : o.wp P a w K Q := by
  have h1 := hx fop (by simp [ho, Op.operands, Call.operands, hcl])
  rw [hf] at h1
  simp only [Dn] at h1
  obtain ⟨cv, h2, h3⟩ := h1
  have h4 : DnL (cxOf B ρ h' w) (cl.args.toList.map (tev s) ++ caps) (cl.args.toList.map a.eval ++ cv) := (eval_list _ fun x hx' => hx x (by simp [ho, Op.operands, Call.operands, hcl] at hx' ⊢; exact .inr hx')).append h3
  have h5 := argPL_dn H R _ _ _ ha h4
  have h6 := hm (cxAll B ρ h' w) _ R.size h5
  have e1 : (cl.args.map a.eval ++ cv.toArray) = (cl.args.toList.map a.eval ++ cv).toArray := by
    apply Array.ext'
    simp
  unfold Oper.wp
  rw [call_run ho hcl h2 hE]
  unfold Oper.upon
  rw [e1]
  refine h6.mono ?_
  rintro e w' ⟨rfl, hb⟩
  exact hK w' hb
/-- One slot's value is known by its shape behind the call. -/
theorem WCall.spoilB {f : FuncId} {vs : List XV} {dst : Option Tmp} {k : KK} {ts : List TV} {Y : Type} (d : Nat) (v : Y → XV) (r : Y → Prop) (hs : SpB P f ts) (ha : argPL (h.map XLB.den) (XV.denL vs) = some ts) (hd : Nat.blt d n = true)
    (hbl : ∀ (C C' : Cx) (u : Value), Shp C.B C.w C'.w → C'.B = C.B → (∀ k, C'.S k) → Dn C (look e d).den u → ∃ y, r y ∧ Dn C' (v y).den u) (hk : ∀ y, r y → forceE ((d, v y) :: mapE spX e) fun e2 => putK n e2 dst .any fun e' => k e' [] (anyG gs)) : WCall P B w0 f vs n e h gs dst k := ⟨by
  intro gh Q ops rest o cl fop cvs hg ho hcl hf hvs hdst hK ρ a w hr
  subst hdst
  refine wpList_plain hg fun K0 hK0 => ?_
  have e1 : XV.denL vs = cl.args.toList.map (tev (toL n e)) ++ XV.denL cvs := by rw [hvs, denL_map (_ ++ _), List.map_append, ← denL_map, ← denL_map, evL_den]
  rw [e1] at ha
  refine spb_enters ho hcl hf hs.1 ha hs.2 (fun i _ => .inr rfl) hr.rel (fun x _ => tev_dn hr.slots x) fun w' hb => ?_
  have hdn := Nat.blt_eq.mp hd
  obtain ⟨u, hu, hu2⟩ := hr.slots.at_ d _ (toL_get? e hdn)
  obtain ⟨y, hy, hv⟩ := hbl (cxOf B ρ (Go.Proofs.Ytpckkajodpiiaaa.hf (h.map XLB.den)) w) (cxOf B ρ (Go.Proofs.Ytpckkajodpiiaaa.hf []) w') u hb rfl (fun k i hi => by simp [Go.Proofs.Ytpckkajodpiiaaa.hf, LB.here] at hi) hu2
  obtain ⟨e', he', hk⟩ := putK_ok (forceE_ok (k := fun e2 => putK n e2 o.dst .any fun e' => k e' [] (anyG gs)) (hk y hy))
  have hK := hK _ _ _ hk
  refine hK0 _ _ (hK ρ _ _ ⟨?_, anyG_dn hr.ghost, Rel.none hr.rel.gl0 (hr.rel.below.trans hb.below) (Nat.le_trans hr.rel.size hb.below.size), by rw [put_defers]; exact hr.defers⟩)
  show DnL _ (toL n e') _
  rw [he', toL_set _ _ hdn]
  refine put_dn ?_ (by simp [XV.den, Dn])
  have h1 := (sp_dn (C' := cxOf B ρ (Go.Proofs.Ytpckkajodpiiaaa.hf []) w') hr.slots).set d hv
  have e2 : a.tmps.toList.set d u = a.tmps.toList := by
    apply List.ext_getElem?
    intro i
    rw [List.getElem?_set]
    split
    · rename_i hi; subst hi; split
      · exact hu.symm
      · rename_i h2; rw [List.getElem?_eq_none (by omega)]
    · rfl
  rw [e2] at h1
  exact h1⟩
end
end Go.Proofs.Ytpckkajodpiiaaa

namespace Go.Proofs.Ytpckkajodpiiaaa
open Go.RowKit
set_option linter.unusedVariables false
set_option linter.unusedSimpArgs false

section
variable {P : Program} {B : Nat} {w0 : World} {gh : List Value} {Q Q' : Exit → Act → World → Prop} {ops : Array Oper}
theorem op_then {o : Oper} {a : Act} {w : World} {K next next' : Act → World → Prop} (hn : ∀ a w, next a w → next' a w) (h : o.wp P a w next (Exit.then K Q)) : o.wp P a w next' Q := by
  unfold Oper.wp at h ⊢
  revert h
  generalize (execOp a.eval o).run P w = r
  intro h
  unfold Oper.upon at h ⊢
  split at h
  · exact hn _ _ h
  · exact hn _ _ h
  · exact hn _ _ h
  · exact h.mono fun e w' hh => by
      cases e with
      | returned v => exact hn _ _ hh
      | panicked c => exact hh
      | outgrown => exact hh
  · exact h.mono fun v w' hh => hn _ _ hh
  · exact h
  · exact h
theorem wpList_app {l2 : List Oper} : ∀ {l1 : List Oper} {a : Act} {w : World}, wpList P ops (Exit.then (wpList P ops Q l2) Q) l1 a w → wpList P ops Q (l1 ++ l2) a w
  | [], a, w, h => h
  | o :: r, a, w, h => by
    show wpList P ops Q (o :: (r ++ l2)) a w
    unfold wpList at h ⊢
    split
    · rename_i hw
      rw [if_pos hw] at h
      rcases h with h | h
      · exact .inl (op_then (fun a w hh => wpList_app hh) h)
      · exact .inr h
    · rename_i hw
      rw [if_neg hw] at h
      exact wpList_app h
theorem wpList_mono {l : List Oper} : ∀ {a : Act} {w : World}, (∀ e a w, Q e a w → Q' e a w) → wpList P ops Q l a w → wpList P ops Q' l a w := by
  induction l with
  | nil => intro a w hq h; exact hq _ _ _ h
  | cons o r ih =>
    intro a w hq h
    unfold wpList at h ⊢
    split
    · rename_i hw
      rw [if_pos hw] at h
      rcases h with h | ⟨h, x, y, h2⟩
      · refine .inl ?_
        unfold Oper.wp at h ⊢
        revert h
        generalize (execOp a.eval o).run P w = r
        intro h
        unfold Oper.upon at h ⊢
        split at h
        · exact ih hq h
        · exact ih hq h
        · exact ih hq h
        · exact h.mono fun e w' hh => by
            cases e with
            | returned v => exact ih hq hh
            | panicked c => exact hq _ _ _ hh
            | outgrown => obtain ⟨x, y, hh⟩ := hh; exact ⟨x, y, hq _ _ _ hh⟩
        · exact h.mono fun v w' hh => ih hq hh
        · exact hq _ _ _ h
        · exact h
      · exact .inr ⟨h, x, y, hq _ _ _ h2⟩
    · rename_i hw
      rw [if_neg hw] at h
      exact ih hq h
end
section
variable {P : Program} {B : Nat} {w0 : World} {gh : List Value} {ops : Array Oper}
/-- Operations one behind the other, cut in two. -/
theorem TL.cat {σ : St} {Q : Exit → St → Prop} {l1 l2 : List Oper} (h : TL P B w0 gh ops l1 σ (thenT (fun σ => TL P B w0 gh ops l2 σ Q) Q)) : TL P B w0 gh ops (l1 ++ l2) σ Q := fun ρ a w hr =>
  wpList_app (wpList_mono (fun e a w hh => by
    have := lift_then hh
    cases e <;> first | exact this | (obtain ⟨σ', ρ', h1, h2⟩ := this; exact h1 ρ' _ _ h2)) (h ρ a w hr))
/-- A cell of bytes that were made behind the mark is written over. -/
theorem TL.over {Q : Exit → St → Prop} {σ : St} {o6 o7 : Oper} {t u : TypeId} {x y z : Operand} {s6 : Nat} {l : List Int} {j : Nat} {m : Int} {ti te tu : TI}
    (h6 : o6.guard = none ∧ o6.op = .indexAddr t x y ∧ o6.dst = some s6) (h7 : o7.guard = none ∧ o7.op = .store u (.tmp s6) z ∧ o7.dst = none) (ht : tiOf P t = some ti) (hk : ti.k = 3) (he : tiOf P ti.el = some te) (hte : te.n = 1) (hu : tiOf P u = some tu) (hun : tu.n = 1)
    (hx : tev σ.s x = .sl true (l.map by1)) (hy : tev σ.s y = .v (.int .i64 (j : Int))) (hj : j < l.length) (hz : ∀ v, tev (σ.s.set s6 v) z = .v (.int .u8 m)) (hs : s6 < σ.s.length)
    (h : ∀ ρ a w w' p, RelS B w0 gh ρ σ a w → Shp B w w' → liftQ B w0 gh Q .normal (a.put (some s6) p) w') : TL P B w0 gh ops [o6, o7] σ Q := fun ρ a w hr => by
  obtain ⟨hg6, ho6, hd6⟩ := h6
  obtain ⟨hg7, ho7, hd7⟩ := h7
  have h1 := tev_dn hr.slots x
  have h2 := tev_dn hr.slots y
  rw [hx] at h1
  rw [hy] at h2
  simp only [Dn] at h1 h2
  obtain ⟨A, cap, css, sz, r1, r2, r3, r4, r5, r6, r7⟩ := h1
  have hll : (l.map by1).length = l.length := by simp
  have hne : l.map by1 ≠ [] := by intro h0; rw [List.map_eq_nil_iff] at h0; rw [h0] at hj; simp at hj
  rcases A with _ | ad
  · exact absurd (r4 rfl) hne
  obtain ⟨r8, r9⟩ := r7 ad rfl
  obtain ⟨r10, r11, r12⟩ := r8 hne
  obtain ⟨r13, r14⟩ := r12 trivial
  have hfl := dnll_by1 r6
  have hcell : w.cell? (ad.add j) = some (.int .u8 l[j]) := r9 j _ (by rw [hfl, List.getElem?_map, List.getElem?_eq_getElem hj]; rfl)
  have hfr : w.frozen? (ad.add j) = false := Unf.frozen (by rw [addr_block]; exact r14)
  have e6 : (execOp a.eval o6).run P w = .ok (.value (.pointer (some (ad.add j)))) w := by
    have : (j : Int) < ((l.map by1).length : Int) := by omega
    have hj2 : j < (l.map by1).length := by omega
    simp [execOp, ho6, h2, r1, Instr.indexAt, asInt_run, run_underlying (ti_slice ht hk), ti_size he, hte, hj]
  refine wpList_plain hg6 fun K hK => ?_
  unfold Oper.wp
  rw [e6]
  refine hK _ _ ?_
  have hs6 := put_dn (dst := some s6) (t := .v (.pointer (some (ad.add j)))) (u := .pointer (some (ad.add j))) hr.slots (by simp [Dn])
  have h3 := tev_dn hs6 z
  have h4 := tev_dn hs6 (.tmp s6)
  simp only at h3 h4
  rw [hz] at h3
  rw [show tev (σ.s.set s6 (.v (.pointer (some (ad.add j))))) (.tmp s6) = .v (.pointer (some (ad.add j))) by simp [tev, hs]] at h4
  simp only [Dn] at h3 h4
  rw [hd6]
  refine wpList_plain hg7 fun K hK => ?_
  unfold Oper.wp
  have hz0 : (ad.add j).add 0 = ad.add j := by simp [Addr.add]
  have e7 : (execOp (a.put (some s6) (.pointer (some (ad.add j)))).eval o7).run P w = .ok .skip (w.setCell (ad.add j) (.int .u8 m)) := by
    have e8 : (storeVar u (ad.add j) (.int .u8 m)).run P w = .ok () (w.setCell (ad.add j) (.int .u8 m)) := by
      simp [storeVar, ti_size hu, hun, Value.cells, storeCells, hz0, run_store P w (ad.add j) (.int .u8 m) .plain rfl, hcell, hfr]
    simp [execOp, ho7, h4, h3, Instr.storeAt, Instr.sureAddr, e8]
  rw [e7]
  refine hK _ _ ?_
  rw [hd7]
  exact h ρ a w _ _ hr ((Shp.refl B w).set (by rw [addr_block]; exact r13) ⟨_, hcell⟩ m)
end
section
variable {P : Program} {B : Nat} {w0 : World} {T : Tab} {n : Nat} {e : Env} {h : List XLB} {gs : Frames} {K : XQ} {c : Code}
/-- The waiting frames, of which nothing is known any more but where the walk stops. -/
def anyM : Frames → Frames
  | (0, m) :: r => (0, m) :: anyG r
  | r => anyG r
theorem anyM_dn {C C' : Cx} {gs : Frames} {us : List Value} (h : DnL C (denG gs) us) : DnL C' (denG (anyM gs)) us := by
  unfold anyM
  split
  · rename_i m r
    have e1 : ∀ q : Frames, denG ((0, m) :: q) = denG q := fun q => by simp [denG, toL]
    rw [e1] at h ⊢
    exact anyG_dn h
  · exact anyG_dn h
/-- Marks are laid: regions ahead of which the walk stops. -/
theorem XT.marks (ms : Env) (hx : XT P B w0 n c e h ((0, ms) :: gs) K) : XT P B w0 n c e h gs K := ⟨fun gh Q hq => by
  have := hx.ok gh Q hq
  have e1 : xst n e h ((0, ms) :: gs) = xst n e h gs := by simp [xst, denG, toL]
  rw [e1] at this
  exact this⟩
/-- `x[i] = ..` where x's bytes were made behind the mark: all of that is unknown behind it, but one slot, known by its shape. -/
theorem XT.over (O : TabOk P T) {id : Nat} {a : Code} {ops : Array Oper} (mm : Nat) {o6 o7 : Oper} {t u : TypeId} {x y z : Operand} {s6 : Nat} {ti te tu : TI} {Y : Type} (d : Nat) (v : Y → XV) (r : Y → Prop)
    (hops : ops.toList.drop mm = [o6, o7]) (h6 : o6.guard = none ∧ o6.op = .indexAddr t x y ∧ o6.dst = some s6) (h7 : o7.guard = none ∧ o7.op = .store u (.tmp s6) z ∧ o7.dst = none) (ht : tiOf P t = some ti) (hk : ti.k = 3) (he : tiOf P ti.el = some te) (hte : te.n = 1) (hu : tiOf P u = some tu) (hun : tu.n = 1)
    (hs : Nat.blt s6 n = true) (hd : Nat.blt d n = true)
    (hx : X P B w0 T n a e h gs fun ex e h gs => match ex with
      | .normal => XL P B w0 T n ops.toList (ops.toList.take mm) e h gs fun e1 h1 gs1 => ∃ (l : List Int) (hp : Nl (.sl true (l.map by1))) (j : Nat) (hpj : Nl (.v (.int .i64 (j : Int)))) (m : Int), xev n e1 x = .p (.sl true (l.map by1)) hp ∧ xev n e1 y = .p (.v (.int .i64 (j : Int))) hpj ∧ j < l.length ∧
          (∀ v, tev ((toL n e1).set s6 v) z = .v (.int .u8 m)) ∧ (∀ (C C' : Cx) (u : Value), Shp C.B C.w C'.w → C'.B = C.B → (∀ k, C'.S k) → Dn C (look e1 d).den u → ∃ y, r y ∧ Dn C' (v y).den u) ∧
          ∀ y, r y → forceE ((d, v y) :: mapE spX e1) fun e2 => putK n e2 (some s6) .any fun e3 => K .normal e3 [] (anyM gs1)
      | ex => K ex e h gs) (hne : Nat.beq s6 d = false) : XT P B w0 n (.seq a (.region id ops false)) e h gs K := ⟨fun gh Q hq => by
  refine .seq ((X_ok O hx).ok gh _ fun ex e h gs h1 => ?_)
  cases ex <;> try exact hq _ _ _ _ h1
  refine .region ?_
  rw [← List.take_append_drop mm ops.toList, hops]
  refine .cat ?_
  refine XL_ok O ops gh _ h1 fun e1 h1 gs1 hh => ?_
  obtain ⟨l, hp, j, hpj, m, g1, g2, g3, g4, g5, g6⟩ := hh
  have hsn := Nat.blt_eq.mp hs
  have hdn := Nat.blt_eq.mp hd
  refine TL.over h6 h7 ht hk he hte hu hun (by have := xev_den (n := n) (e := e1) (x := x); rw [g1] at this; exact this.symm) (by have := xev_den (n := n) (e := e1) (x := y); rw [g2] at this; exact this.symm) g3 g4 (by show s6 < (toL n e1).length; rw [toL_len]; exact hsn) ?_
  intro ρ a w w' p hr hb
  obtain ⟨u, hu1, hu2⟩ := hr.slots.at_ d _ (toL_get? e1 hdn)
  obtain ⟨y, hy, hv⟩ := g5 (cxOf B ρ (Go.Proofs.Ytpckkajodpiiaaa.hf (h1.map XLB.den)) w) (cxOf B ρ (Go.Proofs.Ytpckkajodpiiaaa.hf []) w') u hb rfl (fun k i hi => by simp [Go.Proofs.Ytpckkajodpiiaaa.hf, LB.here] at hi) hu2
  obtain ⟨e', he', hk2⟩ := putK_ok (forceE_ok (k := fun e2 => putK n e2 (some s6) .any fun e3 => K .normal e3 [] (anyM gs1)) (g6 y hy))
  refine ⟨_, ρ, hq _ _ _ _ hk2, ?_, anyM_dn hr.ghost, Rel.none hr.rel.gl0 (hr.rel.below.trans hb.below) (Nat.le_trans hr.rel.size hb.below.size), by rw [put_defers]; exact hr.defers⟩
  show DnL _ (toL n e') _
  rw [he', toL_set _ _ hdn]
  refine put_dn (dst := some s6) ?_ (by simp [XV.den, Dn])
  have h1 := (sp_dn (C' := cxOf B ρ (Go.Proofs.Ytpckkajodpiiaaa.hf []) w') hr.slots).set d hv
  have e2 : a.tmps.toList.set d u = a.tmps.toList := by
    apply List.ext_getElem?
    intro i
    rw [List.getElem?_set]
    split
    · rename_i hi; subst hi; split
      · exact hu1.symm
      · rename_i h2; rw [List.getElem?_eq_none (by omega)]
    · rfl
  rw [e2] at h1
  exact h1⟩
end
end Go.Proofs.Ytpckkajodpiiaaa
